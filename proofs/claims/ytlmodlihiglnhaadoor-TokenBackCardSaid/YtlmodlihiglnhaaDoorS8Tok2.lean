/- Tokens: signs, the next one, reading; the law. -/
import Derived.Test.YtlmodlihiglnhaaDoorS8Tok
set_option linter.unusedVariables false
set_option linter.unusedSimpArgs false
namespace Go.AL.S8.Tok
open Go Go.AL Go.AL.S8

theorem tk_tk {s : Str} {a e : Nat} (h : a ≤ e) : (s.take e).take a = s.take a := by rw [List.take_take]; congr 1; omega
theorem sl_len {t : Str} {i d : Nat} (h : i + d ≤ t.length) : ((t.take (i + d)).drop i).length = d := by simp; omega
def sg (c : UInt8) : Bool := bif (c.toNat : Int) == 40 then (c.toNat : Int) == 40 else bif (c.toNat : Int) == 41 then (c.toNat : Int) == 41 else bif (c.toNat : Int) == 91 then (c.toNat : Int) == 91 else bif (c.toNat : Int) == 93 then (c.toNat : Int) == 93 else bif (c.toNat : Int) == 123 then (c.toNat : Int) == 123 else bif (c.toNat : Int) == 125 then (c.toNat : Int) == 125 else bif (c.toNat : Int) == 44 then (c.toNat : Int) == 44 else bif (c.toNat : Int) == 59 then (c.toNat : Int) == 59 else bif (c.toNat : Int) == 58 then (c.toNat : Int) == 58 else bif (c.toNat : Int) == 61 then (c.toNat : Int) == 61 else bif (c.toNat : Int) == 43 then (c.toNat : Int) == 43 else bif (c.toNat : Int) == 45 then (c.toNat : Int) == 45 else bif (c.toNat : Int) == 42 then (c.toNat : Int) == 42 else bif (c.toNat : Int) == 47 then (c.toNat : Int) == 47 else bif (c.toNat : Int) == 37 then (c.toNat : Int) == 37 else bif (c.toNat : Int) == 60 then (c.toNat : Int) == 60 else bif (c.toNat : Int) == 94 then (c.toNat : Int) == 94 else bif (c.toNat : Int) == 124 then (c.toNat : Int) == 124 else (c.toNat : Int) == 95
theorem one (i : Nat) (c : UInt8) : ∃ b : Bool, ∀ t : Str, t[i]? = some c → L48_1016 t i false = L48_1101416 t i b := by
  refine ⟨sg c, fun t h => ?_⟩
  have cf : ∀ (b x y : Bool), (bif b then L48_1101416 t i x else L48_1101416 t i y) = L48_1101416 t i (bif b then x else y) := fun b x y => by cases b <;> rfl
  rw [e48_1016]
  simp only [cond_false, dge, gI h, cond_true, Option.bind_some, cf]
  rfl
theorem oneB {t : Str} {i : Nat} (h : i < t.length) (hi : i ≤ 5000) : L48_1101416 t i true = some (.pv (.str ((t.take (i + 1)).drop i)), []) := by
  rw [e48_1101416]
  simp only [cond_true, wr1 hi, dge, decide_eq_true (show (i : Int) ≤ ((i + 1 : Nat) : Int) by omega), decide_eq_true (show ((i + 1 : Nat) : Int) ≤ (t.length : Int) by omega), Bool.and_self, Int.toNat_natCast]
theorem oneN (t : Str) (i : Nat) : L48_1101416 t i false = some (.pv (.str []), []) := e48_1101416 _ _ _
def two (l : Str) : Bool := bif l == ([61, 62] : List UInt8) then true else l == ([45, 62] : List UInt8)
theorem s106 {t : Str} {i : Nat} (h : i + 1 < t.length) (hi : i ≤ 5000) : V 48 [.pv (.str t), .pv (.int .i64 (i : Int))] = L48_1016 t i (two ((t.take (i + 2)).drop i)) := by
  have cf : ∀ (b x y : Bool), (bif b then L48_1016 t i x else L48_1016 t i y) = L48_1016 t i (bif b then x else y) := fun b x y => by cases b <;> rfl
  rw [e48]
  simp only [wr1 hi, wr2 hi, dlt h, dge, cond_true, decide_eq_true (show (i : Int) ≤ ((i + 2 : Nat) : Int) by omega), decide_eq_true (show ((i + 2 : Nat) : Int) ≤ (t.length : Int) by omega), Bool.and_self, Int.toNat_natCast, cf]
  rfl
theorem s106e {t : Str} {i : Nat} (h : t.length ≤ i + 1) (hi : i ≤ 5000) : V 48 [.pv (.str t), .pv (.int .i64 (i : Int))] = L48_1016 t i false := by
  rw [e48]
  simp only [wr1 hi, dnlt h, cond_false]
theorem s106t {t : Str} {i : Nat} (h : i + 1 < t.length) (hi : i ≤ 5000) : L48_1016 t i true = some (.pv (.str ((t.take (i + 2)).drop i)), []) := by
  rw [e48_1016]
  simp only [cond_true, wr2 hi, dge, decide_eq_true (show (i : Int) ≤ ((i + 2 : Nat) : Int) by omega), decide_eq_true (show ((i + 2 : Nat) : Int) ≤ (t.length : Int) by omega), Bool.and_self, Int.toNat_natCast]
noncomputable def sgV (t : Str) (i : Nat) : Option Out := V 48 [.pv (.str t), .pv (.int .i64 (i : Int))]
def stO (l : Str) : Option Out := some (.pv (.str l), [])
theorem sign {s : Str} (hl : s.length ≤ 4000) {i : Nat} {c : UInt8} (hc : s[i]? = some c) : sgV s i = stO [] ∨ ∃ d, 1 ≤ d ∧ d ≤ 2 ∧ i + d ≤ s.length ∧ sgV s i = stO ((s.take (i + d)).drop i) ∧ ∀ e, i + d ≤ e → e ≤ s.length → sgV (s.take e) i = stO ((s.take (i + d)).drop i) := by
  have hi := lt_of hc
  obtain ⟨b, hb⟩ := one i c
  unfold sgV stO
  -- one letter, where two don't fit
  have single : (∀ t : Str, t = s ∨ (∃ e, i + 1 ≤ e ∧ e ≤ s.length ∧ t = s.take e) → V 48 [.pv (.str t), .pv (.int .i64 (i : Int))] = L48_1016 t i false) → (V 48 [.pv (.str s), .pv (.int .i64 (i : Int))] = some (.pv (.str []), []) ∨ ∃ d, 1 ≤ d ∧ d ≤ 2 ∧ i + d ≤ s.length ∧ V 48 [.pv (.str s), .pv (.int .i64 (i : Int))] = some (.pv (.str ((s.take (i + d)).drop i)), []) ∧ ∀ e, i + d ≤ e → e ≤ s.length → V 48 [.pv (.str (s.take e)), .pv (.int .i64 (i : Int))] = some (.pv (.str ((s.take (i + d)).drop i)), [])) := fun h => by
    cases b with
    | false => left; rw [h s (.inl rfl), hb s hc, oneN]
    | true =>
      right
      refine ⟨1, by omega, by omega, by omega, by rw [h s (.inl rfl), hb s hc, oneB hi (by omega)], fun e e1 e2 => ?_⟩
      rw [h _ (.inr ⟨e, e1, e2, rfl⟩), hb _ (tk_get hc (by omega)), oneB (by rw [tk_len e2]; omega) (by omega), tk_tk e1]
  rcases Nat.lt_or_ge (i + 1) s.length with h1 | h1
  · cases h2 : two ((s.take (i + 2)).drop i) with
    | true =>
      right
      refine ⟨2, by omega, by omega, by omega, by rw [s106 h1 (by omega), h2, s106t h1 (by omega)], fun e e1 e2 => ?_⟩
      have : i + 1 < (s.take e).length := by rw [tk_len e2]; omega
      rw [s106 this (by omega), tk_tk e1, h2, s106t this (by omega), tk_tk e1]
    | false =>
      refine single fun t ht => ?_
      rcases ht with rfl | ⟨e, e1, e2, rfl⟩
      · rw [s106 h1 (by omega), h2]
      · rcases Nat.lt_or_ge (i + 1) e with he | he
        · rw [s106 (by rw [tk_len e2]; omega) (by omega), tk_tk (by omega), h2]
        · exact s106e (by rw [tk_len e2]; omega) (by omega)
  · refine single fun t ht => ?_
    rcases ht with rfl | ⟨e, e1, e2, rfl⟩
    · exact s106e h1 (by omega)
    · exact s106e (by rw [tk_len e2]; omega) (by omega)

/-! #### The next one -/
noncomputable def nxV (t : Str) (i : Nat) : Option Out := V 43 [.pv (.str t), .pv (.int .i64 (i : Int))]
theorem Nx.congr {s : Str} {i : Nat} {c : UInt8} {X Y : Str → Option Out} (hc : s[i]? = some c) (h : ∀ t : Str, t[i]? = some c → X t = Y t) (hY : Nx s i Y) : Nx s i X := by
  rcases hY with ⟨k, tx, j, h1⟩ | ⟨k, tx, j, h1, h2, h3, h4⟩
  · exact .inl ⟨k, tx, j, (h s hc).trans h1⟩
  · refine .inr ⟨k, tx, j, (h s hc).trans h1, h2, h3, fun e e1 e2 => ?_⟩
    obtain ⟨k', tx', h5⟩ := h4 e e1 e2
    exact ⟨k', tx', (h _ (tk_get hc (by omega))).trans h5⟩
noncomputable def txY (t : Str) (i : Nat) : Option Out := ((V 84 [.pv (.str t), .pv (.int .i64 (i : Int))]).bind retPV).bind fun r1 => (bif (Sh.tup [Sh.str, Sh.int .i64, Sh.bool]).fits r1 then some (.pv (.tup [.agg [.int .i64 5, .str ((r1.r 0).toStr), .int .i64 i], .int .i64 ((r1.r 1).toInt), .bool ((r1.r 2).toBool)]), []) else none)
noncomputable def sgY (t : Str) (i : Nat) : Option Out := ((V 48 [.pv (.str t), .pv (.int .i64 (i : Int))]).bind retPV).bind fun r2 => (bif (Sh.str).fits r2 then some (.pv (.tup [.agg [.int .i64 6, .str r2.toStr, .int .i64 i], .int .i64 (IntKind.i64.wrap ((i : Int) + (r2.toStr.length : Int))), .bool (!(r2.toStr == ([] : List UInt8)))]), []) else none)
theorem fitsT (tx : Str) (j : Int) (ok : Bool) : (Sh.tup [Sh.str, Sh.int .i64, Sh.bool]).fits (.tup [.str tx, .int .i64 j, .bool ok]) = true := nrfl rfl
theorem nxT {s : Str} (hl : s.length ≤ 4000) {i : Nat} {c : UInt8} (hc : s[i]? = some c) : Nx s i fun t => txY t i := by
  have hi := lt_of hc
  have e : ∀ t : Str, V 84 [.pv (.str t), .pv (.int .i64 (i : Int))] = L84_11014 t (i + 1 : Nat) [] := fun t => by rw [e84, wr1 (by omega)]
  have y : ∀ t tx j ok, L84_11014 t (i + 1 : Nat) [] = txO tx j ok → txY t i = tkO 5 tx i j ok := fun t tx j ok h => by
    unfold txY
    rw [e, h]
    rfl
  rcases text hl s.length (i + 1) [] (by omega) (by simp) rfl with ⟨tx, j, h1⟩ | ⟨tx, j, h1, h2, h3, h4, _⟩
  · exact .inl ⟨5, tx, j, y s _ _ _ h1⟩
  · exact .inr ⟨5, tx, j, y s _ _ _ h1, by omega, h3, fun e e1 e2 => ⟨5, tx, y _ _ _ _ (h4 e e1 e2)⟩⟩
theorem nxS {s : Str} (hl : s.length ≤ 4000) {i : Nat} {c : UInt8} (hc : s[i]? = some c) : Nx s i fun t => sgY t i := by
  have hi := lt_of hc
  have y : ∀ (t l : Str), sgV t i = stO l → sgY t i = tkO 6 l i (IntKind.i64.wrap ((i : Int) + (l.length : Int))) (!(l == ([] : List UInt8))) := fun t l h => by
    unfold sgY
    unfold sgV stO at h
    rw [h]
    rfl
  rcases sign hl hc with h | ⟨d, d1, d2, h1, h2, h3⟩
  · exact .inl ⟨6, [], _, y s _ h⟩
  · have hlen := sl_len (t := s) (i := i) (d := d) h1
    have hne : (!(((s.take (i + d)).drop i) == ([] : List UInt8))) = true := by
      cases hx : (s.take (i + d)).drop i with
      | nil => rw [hx] at hlen; simp at hlen; omega
      | cons a l => rfl
    refine .inr ⟨6, (s.take (i + d)).drop i, i + d, ?_, by omega, h1, fun e e1 e2 => ⟨6, (s.take (i + d)).drop i, ?_⟩⟩
    · dsimp only
      rw [y s _ h2, hlen, wr (by omega) d (by omega), hne]
    · dsimp only
      rw [y _ _ (h3 e e1 e2), hlen, wr (by omega) d (by omega), hne]
theorem next {s : Str} (hl : s.length ≤ 4000) {i : Nat} {c : UInt8} (hc : s[i]? = some c) : Nx s i fun t => nxV t i := by
  obtain ⟨b0, h0⟩ := b100 (c.toNat : Int)
  obtain ⟨b1, h1⟩ := b101 (c.toNat : Int)
  obtain ⟨b2, h2, h20, h21⟩ := b102 (c.toNat : Int)
  obtain ⟨b4, h4⟩ := b104 (c.toNat : Int)
  have e1 : ∀ t : Str, t[i]? = some c → nxV t i = L43_1110416 t i c (bif b0 then true else b1) := fun t h => by
    unfold nxV
    rw [e43]
    simp only [dge, gI h, cond_true, Option.bind_some, h0, h1, retPV_pv, fits_bool, toBool_bool]
    cases b0 <;> rfl
  cases hb : (bif b0 then true else b1) with
  | true =>
    have hin : V 83 [.pv (.int .u8 (c.toNat : Int))] = some (.pv (.bool true), []) := by
      rw [h2]
      have : b2 = true := by
        cases b0 with
        | true => exact h20 h0
        | false =>
          simp only [cond_false] at hb
          rw [hb] at h1
          exact h21 h1
      rw [this]
    refine Nx.congr hc (fun t h => ?_) (nxA hl hc hin)
    rw [e1 t h, hb, e43_1110416]
    rfl
  | false =>
    have e2 : ∀ t : Str, t[i]? = some c → nxV t i = bif b4 then L43_11104131204 t i i else bif (c.toNat : Int) == 34 then txY t i else sgY t i := fun t h => by
      rw [e1 t h, hb, e43_1110416]
      simp only [cond_false, h4, Option.bind_some, retPV_pv, fits_bool, toBool_bool, cond_true]
      rfl
    cases b4 with
    | true => exact Nx.congr hc (fun t h => by rw [e2 t h]; rfl) (nxD hl hc h4)
    | false =>
      cases h34 : (c.toNat : Int) == 34 with
      | true => exact Nx.congr hc (fun t h => by rw [e2 t h, h34]; rfl) (nxT hl hc)
      | false => exact Nx.congr hc (fun t h => by rw [e2 t h, h34]; rfl) (nxS hl hc)

/-! #### Reading -/
abbrev Tk := Int × Str × Nat
def eT (x : Tk) : PV := .agg [.int .i64 x.1, .str x.2.1, .int .i64 (x.2.2 : Int)]
theorem eT_fits (x : Tk) : (Sh.agg [Sh.int .i64, Sh.str, Sh.int .i64]).fits (eT x) = true := nrfl rfl
theorem eT_2 (x : Tk) : ((eT x).c 2).toInt = (x.2.2 : Int) := nrfl rfl
def rO (l : List Tk) (at_ : Int) (er : Int) : Option Out := some (.pv (.tup [.lst (l.map eT), .int .i64 at_, .int .i64 er]), [])
theorem fitsK (k : Int) (tx : Str) (i : Nat) (j : Int) (ok : Bool) : (Sh.tup [Sh.agg [Sh.int .i64, Sh.str, Sh.int .i64], Sh.int .i64, Sh.bool]).fits (.tup [.agg [.int .i64 k, .str tx, .int .i64 (i : Int)], .int .i64 j, .bool ok]) = true := nrfl rfl
theorem r42e {t : Str} {l : List Tk} {v : Nat} (h : t.length ≤ v) : L20_111014 t (l.map eT) v = rO l 0 0 := by
  rw [e20_111014, dnlt h]; rfl
theorem r42f {t : Str} {l : List Tk} {v : Nat} {k : Int} {tx : Str} {j : Int} (h : v < t.length) (hn : nxV t v = tkO k tx v j false) : L20_111014 t (l.map eT) v = rO [] v 10 := by
  unfold nxV tkO at hn
  rw [e20_111014]
  simp only [dlt h, cond_true, hn, Option.bind_some, retPV_pv, fitsK]
  rfl
theorem r42g {t : Str} {l : List Tk} {v j j' : Nat} {k : Int} {tx : Str} (h : v < t.length) (hl : l.length ≤ 5000) (hn : nxV t v = tkO k tx v j true) (hs : L42_104 t j = iO j') : L20_111014 t (l.map eT) v = L20_111014 t ((l ++ [(k, tx, v)]).map eT) j' := by
  unfold nxV tkO at hn
  unfold iO at hs
  have hs' : V 42 [.pv (.str t), .pv (.int .i64 (j : Int))] = some (.pv (.int .i64 (j' : Int)), []) := (e42 _ _).trans hs
  have sm : small (l.map eT).length 1 32 = true := small_of (by simp; omega)
  rw [e20_111014]
  simp only [dlt h, cond_true, hn, Option.bind_some, retPV_pv, fitsK, r_zero, r_succ, toBool_bool, toInt_int, Bool.not_true, cond_false, sm, hs', fits_i64]
  rw [List.map_append]
  rfl
def Inc (n : Nat) : Nat → List Tk → Prop
  | _, [] => True
  | b, x :: l => b ≤ x.2.2 ∧ x.2.2 < n ∧ Inc n (x.2.2 + 1) l
theorem Inc.mono {n : Nat} {a b : Nat} {l : List Tk} (h : a ≤ b) (hi : Inc n b l) : Inc n a l := by
  cases l with
  | nil => trivial
  | cons x l => exact ⟨by have := hi.1; omega, hi.2⟩
theorem rd {s : Str} (hl : s.length ≤ 4000) : ∀ (n v : Nat) (acc : List Tk), s.length - v ≤ n → v ≤ s.length → acc.length ≤ v →
    (∃ toks, L20_111014 s (acc.map eT) v = rO (acc ++ toks) 0 0 ∧ Inc s.length v toks) ∨
    (∃ at_ : Nat, v ≤ at_ ∧ at_ < s.length ∧ L20_111014 s (acc.map eT) v = rO [] at_ 10 ∧ ∀ acc' : List Tk, acc'.length ≤ v → ∃ l', L20_111014 (s.take at_) (acc'.map eT) v = rO l' 0 0) := by
  intro n
  induction n with
  | zero => intro v acc h1 h2 h3; exact .inl ⟨[], by rw [r42e (by omega), List.append_nil], trivial⟩
  | succ n ih =>
    intro v acc h1 h2 h3
    rcases Nat.lt_or_ge v s.length with hv | hv
    · have hc : s[v]? = some s[v] := List.getElem?_eq_getElem hv
      rcases next hl hc with ⟨k, tx, j, hn⟩ | ⟨k, tx, j, hn, hj1, hj2, hp⟩
      · exact .inr ⟨v, Nat.le_refl _, hv, r42f hv hn, fun acc' ha => ⟨acc', r42e (by rw [tk_len (by omega)]; omega)⟩⟩
      · obtain ⟨⟨j', q1, q2, q3, q4⟩, _⟩ := skip hl s.length j (by omega) hj2
        have hstep := r42g (l := acc) hv (by omega) hn q3
        rcases ih j' (acc ++ [(k, tx, v)]) (by omega) q2 (by simp; omega) with ⟨toks, g1, g2⟩ | ⟨at_, g1, g2, g3, g4⟩
        · refine .inl ⟨(k, tx, v) :: toks, by rw [hstep, g1]; simp, Nat.le_refl _, hv, g2.mono (by dsimp only; omega)⟩
        · refine .inr ⟨at_, by omega, g2, hstep.trans g3, fun acc' ha => ?_⟩
          obtain ⟨k', tx', hn'⟩ := hp at_ (by omega) (by omega)
          obtain ⟨l', h5⟩ := g4 (acc' ++ [(k', tx', v)]) (by simp; omega)
          exact ⟨l', by rw [r42g (l := acc') (by rw [tk_len (by omega)]; omega) (by omega) hn' (q4 at_ (by omega) (by omega)), h5]⟩
    · exact .inl ⟨[], by rw [r42e hv, List.append_nil], trivial⟩

theorem v18 : V 18 [] = some (.pv (.bool true), []) := (V_A pa 18 []).le 60 _ (by kernel_rfl)
theorem fits3 (l : List PV) (a b : Int) : (Sh.tup [Sh.lst, Sh.int .i64, Sh.int .i64]).fits (.tup [.lst l, .int .i64 a, .int .i64 b]) = true := nrfl rfl
end Go.AL.S8.Tok
