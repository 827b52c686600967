/- Tokens: where they stand; what was read ahead of an error. -/
import Derived.Test.YtlmodlihiglnhaaDoorS8EAll
import Derived.Test.YtlmodlihiglnhaaDoorAL4
set_option linter.unusedVariables false
set_option linter.unusedSimpArgs false
namespace Go.AL.S8.Tok
open Go Go.AL Go.AL.S8

abbrev Str := List UInt8
def aB (f : FuncId) (c : Int) : Prop := ∃ b : Bool, V f [.pv (.int .u8 c)] = some (.pv (.bool b), [])
theorem b100 (c : Int) : aB 81 c := by
  unfold aB; rw [e81]
  cases decide (c ≥ 97) with
  | true => exact ⟨_, rfl⟩
  | false => exact ⟨_, rfl⟩
theorem b101 (c : Int) : aB 82 c := by
  unfold aB; rw [e82]
  cases decide (c ≥ 65) with
  | true => exact ⟨_, rfl⟩
  | false => exact ⟨_, rfl⟩
theorem b104 (c : Int) : aB 47 c := by
  unfold aB; rw [e47]
  cases decide (c ≥ 48) with
  | true => exact ⟨_, rfl⟩
  | false => exact ⟨_, rfl⟩
theorem b102 (c : Int) : ∃ b : Bool, V 83 [.pv (.int .u8 c)] = some (.pv (.bool b), []) ∧ (V 81 [.pv (.int .u8 c)] = some (.pv (.bool true), []) → b = true) ∧ (V 82 [.pv (.int .u8 c)] = some (.pv (.bool true), []) → b = true) := by
  obtain ⟨b0, h0⟩ := b100 c
  obtain ⟨b1, h1⟩ := b101 c
  obtain ⟨b4, h4⟩ := b104 c
  rw [e83, h0, h1, h4]
  simp only [Option.bind_some, retPV_pv, fits_bool, toBool_bool, cond_true]
  cases b0 with
  | true => exact ⟨true, rfl, fun _ => rfl, fun _ => rfl⟩
  | false =>
    cases b1 with
    | true => exact ⟨true, rfl, fun _ => rfl, fun _ => rfl⟩
    | false =>
      refine ⟨bif b4 then true else c == 95, ?_, fun h => ?_, fun h => ?_⟩
      · cases b4 <;> rfl
      · simp at h
      · simp at h
theorem b112 (c : Int) : ∃ (n : Int) (b : Bool), V 108 [.pv (.int .u8 c)] = some (.pv (.tup [.int .u8 n, .bool b]), []) := by
  obtain ⟨b4, h4⟩ := b104 c
  have hl : ∀ b : Bool, ∃ (n : Int) (b' : Bool), L108_1041316 c b = some (.pv (.tup [.int .u8 n, .bool b']), []) := fun b => by
    rw [e108_1041316]
    cases b with
    | true => exact ⟨_, _, rfl⟩
    | false => exact ⟨_, _, rfl⟩
  rw [e108, h4]
  simp only [Option.bind_some, retPV_pv, fits_bool, toBool_bool, cond_true]
  cases b4 with
  | true => exact ⟨_, _, rfl⟩
  | false =>
    cases decide (c ≥ 97) with
    | true => exact hl _
    | false => exact hl _
theorem l46 {s : Str} {v : List PV} (hl : v.length ≤ maxLen) (hs : ∀ x, x ∈ v → Sh.str.fits x = true) : ∀ (l : List PV) (k : Nat), v.drop k = l → ∃ b : Bool, L46_1014 s v k = some (.pv (.bool b), [])
  | [], k, h => ⟨_, by rw [e46_1014, endK h]; rfl⟩
  | x :: l, k, h => by
    have A := atK h hl
    obtain ⟨b, ih⟩ := l46 hl hs l (k + 1) A.drop
    rw [e46_1014]
    simp only [A.lt, A.ge, A.get, A.next, cond_true, Option.bind_some, hs x (List.mem_of_getElem? A.get')]
    cases x.toStr == s with
    | true => exact ⟨_, rfl⟩
    | false => exact ⟨b, ih⟩
theorem b103 (s : Str) : ∃ b : Bool, V 46 [.pv (.str s)] = some (.pv (.bool b), []) := by
  rw [e46, e86]
  simp only [Option.bind_some, retPV_pv, fits_lstS, cond_true, toLst_lst]
  refine l46 (by decide) ?_ _ 0 rfl
  exact fun x hx => List.all_eq_true.1 (show List.all _ (fun x => Sh.str.fits x) = true from rfl) x hx

/-! #### Places -/
theorem wr {i : Nat} (h : i ≤ 5000) (d : Nat) (hd : d ≤ 5) : IntKind.i64.wrap ((i : Int) + (d : Int)) = ((i + d : Nat) : Int) := by
  rw [wrap_i64 (by omega) (by omega)]; omega
theorem wr1 {i : Nat} (h : i ≤ 5000) : IntKind.i64.wrap ((i : Int) + (1 : Int)) = ((i + 1 : Nat) : Int) := wr h 1 (by omega)
theorem wr2 {i : Nat} (h : i ≤ 5000) : IntKind.i64.wrap ((i : Int) + (2 : Int)) = ((i + 2 : Nat) : Int) := wr h 2 (by omega)
theorem wr3 {i : Nat} (h : i ≤ 5000) : IntKind.i64.wrap ((i : Int) + (3 : Int)) = ((i + 3 : Nat) : Int) := wr h 3 (by omega)
theorem dge (i : Nat) : decide (0 ≤ (i : Int)) = true := decide_eq_true (by omega)
theorem dlt {i n : Nat} (h : i < n) : decide ((i : Int) < (n : Int)) = true := decide_eq_true (by omega)
theorem dnlt {i n : Nat} (h : n ≤ i) : decide ((i : Int) < (n : Int)) = false := decide_eq_false (by omega)
theorem gI {t : Str} {i : Nat} {c : UInt8} (h : t[i]? = some c) : t[((i : Nat) : Int).toNat]? = some c := by simpa using h
theorem lt_of {t : Str} {i : Nat} {c : UInt8} (h : t[i]? = some c) : i < t.length := (List.getElem?_eq_some_iff.1 h).1
theorem tk_len {s : Str} {e : Nat} (h : e ≤ s.length) : (s.take e).length = e := by simp; omega
theorem tk_get {s : Str} {e i : Nat} {c : UInt8} (h : s[i]? = some c) (hi : i < e) : (s.take e)[i]? = some c := by rw [List.getElem?_take, if_pos hi]; exact h
def iO (j : Int) : Option Out := some (.pv (.int .i64 j), [])

/-! #### Skipping -/
def ws (c : UInt8) : Bool := bif (c.toNat : Int) == 32 then (c.toNat : Int) == 32 else bif (c.toNat : Int) == 9 then (c.toNat : Int) == 9 else (c.toNat : Int) == 10
theorem s84 {t : Str} {i : Nat} {c : UInt8} (h : t[i]? = some c) (hi : i ≤ 5000) : L42_104 t i = bif ws c then L42_104 t (i + 1 : Nat) else bif (c.toNat : Int) == 35 then L42_1045141413124 t i else iO i := by
  have cf : ∀ (b x y : Bool), (bif b then L42_1045141416 t i c x else L42_1045141416 t i c y) = L42_1045141416 t i c (bif b then x else y) := fun b x y => by cases b <;> rfl
  rw [e42_104]
  simp only [dlt (lt_of h), dge, gI h, cond_true, Option.bind_some, cf]
  rw [e42_1045141416, wr1 hi]
  rfl
theorem s84c {t : Str} {i : Nat} {c : UInt8} (h : t[i]? = some c) (hi : i ≤ 5000) : L42_1045141413124 t i = bif (c.toNat : Int) != 10 then L42_1045141413124 t (i + 1 : Nat) else L42_104 t i := by
  rw [e42_1045141413124]
  simp only [dlt (lt_of h), dge, gI h, cond_true, Option.bind_some, wr1 hi]
theorem s84e {t : Str} {i : Nat} (h : t.length ≤ i) : L42_104 t i = iO i := by
  rw [e42_104, dnlt h]; rfl
theorem s84ce {t : Str} {i : Nat} (h : t.length ≤ i) : L42_1045141413124 t i = iO i := by
  rw [e42_1045141413124, dnlt h]; exact s84e h
def Sk (L : Str → Int → Option Out) (s : Str) (i j : Nat) : Prop := i ≤ j ∧ j ≤ s.length ∧ L s (i : Int) = iO j ∧ ∀ e, j ≤ e → e ≤ s.length → L (s.take e) (i : Int) = iO j
theorem skip {s : Str} (hl : s.length ≤ 4000) : ∀ (n i : Nat), s.length - i ≤ n → i ≤ s.length → (∃ j, Sk L42_104 s i j) ∧ ∃ j, Sk L42_1045141413124 s i j := by
  have fin : ∀ i, i = s.length → (∃ j, Sk L42_104 s i j) ∧ ∃ j, Sk L42_1045141413124 s i j := by
    rintro i rfl
    refine ⟨⟨s.length, Nat.le_refl _, Nat.le_refl _, s84e (Nat.le_refl _), fun e h1 h2 => s84e (by rw [tk_len h2]; omega)⟩, ⟨s.length, Nat.le_refl _, Nat.le_refl _, s84ce (Nat.le_refl _), fun e h1 h2 => s84ce (by rw [tk_len h2]; omega)⟩⟩
  intro n
  induction n with
  | zero => intro i h1 h2; exact fin i (by omega)
  | succ n ih =>
    intro i h1 h2
    rcases Nat.lt_or_ge i s.length with hi | hi
    · obtain ⟨⟨j, p1, p2, p3, p4⟩, ⟨k, q1, q2, q3, q4⟩⟩ := ih (i + 1) (by omega) (by omega)
      have hc : s[i]? = some s[i] := List.getElem?_eq_getElem hi
      have hC : ∃ k, Sk L42_1045141413124 s i k := by
        cases h10 : ((s[i].toNat : Int) != 10) with
        | true =>
          refine ⟨k, by omega, q2, ?_, fun e e1 e2 => ?_⟩
          · rw [s84c hc (by omega), h10]; exact q3
          · rw [s84c (tk_get hc (by omega)) (by omega), h10]; exact q4 e e1 e2
        | false =>
          have hw : ws s[i] = true := by
            have : (s[i].toNat : Int) = 10 := by simpa using h10
            unfold ws; rw [this]; rfl
          refine ⟨j, by omega, p2, ?_, fun e e1 e2 => ?_⟩
          · rw [s84c hc (by omega), h10, s84 hc (by omega), hw]; exact p3
          · rw [s84c (tk_get hc (by omega)) (by omega), h10, s84 (tk_get hc (by omega)) (by omega), hw]; exact p4 e e1 e2
      refine ⟨?_, hC⟩
      obtain ⟨m, r1, r2, r3, r4⟩ := hC
      cases hw : ws s[i] with
      | true =>
        refine ⟨j, by omega, p2, ?_, fun e e1 e2 => ?_⟩
        · rw [s84 hc (by omega), hw]; exact p3
        · rw [s84 (tk_get hc (by omega)) (by omega), hw]; exact p4 e e1 e2
      | false =>
        cases h35 : ((s[i].toNat : Int) == 35) with
        | true =>
          refine ⟨m, r1, r2, ?_, fun e e1 e2 => ?_⟩
          · rw [s84 hc (by omega), hw, h35]; exact r3
          · rcases Nat.lt_or_ge i e with he | he
            · rw [s84 (tk_get hc he) (by omega), hw, h35]; exact r4 e e1 e2
            · have : m = i := by omega
              subst this
              exact s84e (by rw [tk_len e2]; omega)
        | false =>
          refine ⟨i, Nat.le_refl _, h2, ?_, fun e e1 e2 => ?_⟩
          · rw [s84 hc (by omega), hw, h35]; rfl
          · rcases Nat.lt_or_ge i e with he | he
            · rw [s84 (tk_get hc he) (by omega), hw, h35]; rfl
            · exact s84e (by rw [tk_len e2]; omega)
    · exact fin i (by omega)

/-! #### Words and numbers -/
def tkO (k : Int) (tx : Str) (i : Nat) (j : Int) (ok : Bool) : Option Out := some (.pv (.tup [.agg [.int .i64 k, .str tx, .int .i64 (i : Int)], .int .i64 j, .bool ok]), [])
theorem scanA {s : Str} (hl : s.length ≤ 4000) (i : Nat) (c : UInt8) : ∀ (n k : Nat), s.length - k ≤ n → k ≤ s.length → ∃ j, k ≤ j ∧ j ≤ s.length ∧ L43_111041204 s i c k = L43_111041216 s i c j ∧ ∀ e, j ≤ e → e ≤ s.length → L43_111041204 (s.take e) i c k = L43_111041216 (s.take e) i c j := by
  have fin : ∀ (t : Str) (k : Nat), t.length ≤ k → L43_111041204 t i c k = L43_111041216 t i c k := fun t k h => by rw [e43_111041204, dnlt h]; rfl
  have step : ∀ (t : Str) (k : Nat) (x : UInt8) (b : Bool), t[k]? = some x → k ≤ 5000 → V 83 [.pv (.int .u8 (x.toNat : Int))] = some (.pv (.bool b), []) → L43_111041204 t i c k = bif b then L43_111041204 t i c (k + 1 : Nat) else L43_111041216 t i c k := fun t k x b h hk hb => by
    rw [e43_111041204]
    simp only [dlt (lt_of h), dge, gI h, cond_true, Option.bind_some, hb, retPV_pv, fits_bool, toBool_bool, wr1 hk]
  intro n
  induction n with
  | zero => intro k h1 h2; exact ⟨k, Nat.le_refl _, h2, fin s k (by omega), fun e e1 e2 => fin _ k (by rw [tk_len e2]; omega)⟩
  | succ n ih =>
    intro k h1 h2
    rcases Nat.lt_or_ge k s.length with hk | hk
    · have hc : s[k]? = some s[k] := List.getElem?_eq_getElem hk
      obtain ⟨b, hb, _⟩ := b102 (s[k].toNat : Int)
      cases b with
      | true =>
        obtain ⟨j, p1, p2, p3, p4⟩ := ih (k + 1) (by omega) (by omega)
        exact ⟨j, by omega, p2, by rw [step s k _ _ hc (by omega) hb]; exact p3, fun e e1 e2 => by rw [step _ k _ _ (tk_get hc (by omega)) (by omega) hb]; exact p4 e e1 e2⟩
      | false =>
        refine ⟨k, Nat.le_refl _, h2, by rw [step s k _ _ hc (by omega) hb]; rfl, fun e e1 e2 => ?_⟩
        rcases Nat.lt_or_ge k e with he | he
        · rw [step _ k _ _ (tk_get hc he) (by omega) hb]; rfl
        · exact fin _ k (by rw [tk_len e2]; omega)
    · exact ⟨k, Nat.le_refl _, h2, fin s k (by omega), fun e e1 e2 => fin _ k (by rw [tk_len e2]; omega)⟩
theorem scanD {s : Str} (hl : s.length ≤ 4000) (i : Nat) : ∀ (n k : Nat), s.length - k ≤ n → k ≤ s.length → ∃ j, k ≤ j ∧ j ≤ s.length ∧ L43_11104131204 s i k = L43_11104131216 s i j ∧ ∀ e, j ≤ e → e ≤ s.length → L43_11104131204 (s.take e) i k = L43_11104131216 (s.take e) i j := by
  have fin : ∀ (t : Str) (k : Nat), t.length ≤ k → L43_11104131204 t i k = L43_11104131216 t i k := fun t k h => by rw [e43_11104131204, dnlt h]; rfl
  have step : ∀ (t : Str) (k : Nat) (x : UInt8) (b : Bool), t[k]? = some x → k ≤ 5000 → V 47 [.pv (.int .u8 (x.toNat : Int))] = some (.pv (.bool b), []) → L43_11104131204 t i k = bif b then L43_11104131204 t i (k + 1 : Nat) else L43_11104131216 t i k := fun t k x b h hk hb => by
    rw [e43_11104131204]
    simp only [dlt (lt_of h), dge, gI h, cond_true, Option.bind_some, hb, retPV_pv, fits_bool, toBool_bool, wr1 hk]
  intro n
  induction n with
  | zero => intro k h1 h2; exact ⟨k, Nat.le_refl _, h2, fin s k (by omega), fun e e1 e2 => fin _ k (by rw [tk_len e2]; omega)⟩
  | succ n ih =>
    intro k h1 h2
    rcases Nat.lt_or_ge k s.length with hk | hk
    · have hc : s[k]? = some s[k] := List.getElem?_eq_getElem hk
      obtain ⟨b, hb⟩ := b104 (s[k].toNat : Int)
      cases b with
      | true =>
        obtain ⟨j, p1, p2, p3, p4⟩ := ih (k + 1) (by omega) (by omega)
        exact ⟨j, by omega, p2, by rw [step s k _ _ hc (by omega) hb]; exact p3, fun e e1 e2 => by rw [step _ k _ _ (tk_get hc (by omega)) (by omega) hb]; exact p4 e e1 e2⟩
      | false =>
        refine ⟨k, Nat.le_refl _, h2, by rw [step s k _ _ hc (by omega) hb]; rfl, fun e e1 e2 => ?_⟩
        rcases Nat.lt_or_ge k e with he | he
        · rw [step _ k _ _ (tk_get hc he) (by omega) hb]; rfl
        · exact fin _ k (by rw [tk_len e2]; omega)
    · exact ⟨k, Nat.le_refl _, h2, fin s k (by omega), fun e e1 e2 => fin _ k (by rw [tk_len e2]; omega)⟩
theorem endA {t : Str} {i j : Nat} (c : UInt8) (h1 : i ≤ j) (h2 : j ≤ t.length) : ∃ (k : Int) (tx : Str), L43_111041216 t i c j = tkO k tx i j (decide (IntKind.i64.wrap ((j : Int) - (i : Int)) ≤ 16)) := by
  obtain ⟨b, hb⟩ := b100 (c.toNat : Int)
  obtain ⟨b2, hb2⟩ := b103 ((t.take ((j : Nat) : Int).toNat).drop ((i : Nat) : Int).toNat)
  have last : ∀ k : Int, L43_11104121116 i j k t = tkO k ((t.take ((j : Nat) : Int).toNat).drop ((i : Nat) : Int).toNat) i j (decide (IntKind.i64.wrap ((j : Int) - (i : Int)) ≤ 16)) := fun k => e43_11104121116 _ _ _ _
  rw [e43_111041216, decide_eq_true (show (0 : Int) ≤ (i : Int) by omega), decide_eq_true (show (i : Int) ≤ (j : Int) by omega), decide_eq_true (show (j : Int) ≤ (t.length : Int) by omega), hb, hb2]
  simp only [Bool.and_self, cond_true, Option.bind_some, retPV_pv, fits_bool, toBool_bool]
  cases b with
  | false => exact ⟨_, _, last 2⟩
  | true =>
    cases b2 with
    | true => exact ⟨_, _, last 3⟩
    | false => exact ⟨_, _, last 1⟩
/-- What a reading at a place may be. -/
def Nx (s : Str) (i : Nat) (X : Str → Option Out) : Prop := (∃ k tx j, X s = tkO k tx i j false) ∨ (∃ k tx, ∃ j : Nat, X s = tkO k tx i j true ∧ i < j ∧ j ≤ s.length ∧ ∀ e, j ≤ e → e ≤ s.length → ∃ k' tx', X (s.take e) = tkO k' tx' i j true)
theorem nxA {s : Str} (hl : s.length ≤ 4000) {i : Nat} {c : UInt8} (hc : s[i]? = some c) (hin : V 83 [.pv (.int .u8 (c.toNat : Int))] = some (.pv (.bool true), [])) : Nx s i fun t => L43_111041204 t i c i := by
  have hi := lt_of hc
  have step : ∀ (t : Str), t[i]? = some c → L43_111041204 t i c i = L43_111041204 t i c (i + 1 : Nat) := fun t h => by
    rw [e43_111041204]
    simp only [dlt (lt_of h), dge, gI h, cond_true, Option.bind_some, hin, retPV_pv, fits_bool, toBool_bool, wr1 (show i ≤ 5000 by omega)]
  obtain ⟨j, p1, p2, p3, p4⟩ := scanA hl i c s.length (i + 1) (by omega) (by omega)
  obtain ⟨k, tx, h1⟩ := endA (t := s) (i := i) (j := j) c (by omega) p2
  cases hd : decide (IntKind.i64.wrap ((j : Int) - (i : Int)) ≤ 16) with
  | false => left; exact ⟨k, tx, j, by dsimp only; rw [step s hc, p3, h1, hd]⟩
  | true =>
    right
    refine ⟨k, tx, j, by dsimp only; rw [step s hc, p3, h1, hd], by omega, p2, fun e e1 e2 => ?_⟩
    obtain ⟨k', tx', h2⟩ := endA (t := s.take e) (i := i) (j := j) c (by omega) (by rw [tk_len e2]; omega)
    exact ⟨k', tx', by dsimp only; rw [step _ (tk_get hc (by omega)), p4 e e1 e2, h2, hd]⟩
theorem nxD {s : Str} (hl : s.length ≤ 4000) {i : Nat} {c : UInt8} (hc : s[i]? = some c) (hin : V 47 [.pv (.int .u8 (c.toNat : Int))] = some (.pv (.bool true), [])) : Nx s i fun t => L43_11104131204 t i i := by
  have hi := lt_of hc
  have step : ∀ (t : Str), t[i]? = some c → L43_11104131204 t i i = L43_11104131204 t i (i + 1 : Nat) := fun t h => by
    rw [e43_11104131204]
    simp only [dlt (lt_of h), dge, gI h, cond_true, Option.bind_some, hin, retPV_pv, fits_bool, toBool_bool, wr1 (show i ≤ 5000 by omega)]
  obtain ⟨j, p1, p2, p3, p4⟩ := scanD hl i s.length (i + 1) (by omega) (by omega)
  have hend : ∀ (t : Str), j = t.length → i ≤ j → ∃ tx, L43_11104131216 t i j = tkO 4 tx i j true := fun t h h' => by
    rw [e43_11104131216, decide_eq_true (show (0 : Int) ≤ (i : Int) by omega), decide_eq_true (show (i : Int) ≤ (j : Int) by omega), decide_eq_true (show (j : Int) ≤ (t.length : Int) by omega), decide_eq_true (show (j : Int) ≥ (t.length : Int) by omega)]
    exact ⟨_, rfl⟩
  have hmid : ∀ (t : Str) (x : UInt8) (b : Bool), t[j]? = some x → V 83 [.pv (.int .u8 (x.toNat : Int))] = some (.pv (.bool b), []) → i ≤ j → ∃ tx, L43_11104131216 t i j = tkO 4 tx i j (!b) := fun t x b h hb h' => by
    have := lt_of h
    rw [e43_11104131216, decide_eq_true (show (0 : Int) ≤ (i : Int) by omega), decide_eq_true (show (i : Int) ≤ (j : Int) by omega), decide_eq_true (show (j : Int) ≤ (t.length : Int) by omega), decide_eq_false (show ¬ (j : Int) ≥ (t.length : Int) by omega), dge]
    simp only [Bool.and_self, cond_true, cond_false, gI h, Option.bind_some, hb, retPV_pv, fits_bool, toBool_bool]
    exact ⟨_, rfl⟩
  rcases Nat.lt_or_ge j s.length with hj | hj
  · have hx : s[j]? = some s[j] := List.getElem?_eq_getElem hj
    obtain ⟨b, hb, _⟩ := b102 (s[j].toNat : Int)
    obtain ⟨tx, h1⟩ := hmid s _ b hx hb (by omega)
    cases b with
    | true => left; exact ⟨4, tx, j, by dsimp only; rw [step s hc, p3, h1]; rfl⟩
    | false =>
      right
      refine ⟨4, tx, j, by dsimp only; rw [step s hc, p3, h1]; rfl, by omega, p2, fun e e1 e2 => ?_⟩
      rcases Nat.lt_or_ge j e with he | he
      · obtain ⟨tx', h2⟩ := hmid (s.take e) _ false (tk_get hx he) hb (by omega)
        exact ⟨4, tx', by dsimp only; rw [step _ (tk_get hc (by omega)), p4 e e1 e2, h2]; rfl⟩
      · obtain ⟨tx', h2⟩ := hend (s.take e) (by rw [tk_len e2]; omega) (by omega)
        exact ⟨4, tx', by dsimp only; rw [step _ (tk_get hc (by omega)), p4 e e1 e2, h2]⟩
  · obtain ⟨tx, h1⟩ := hend s (by omega) (by omega)
    right
    refine ⟨4, tx, j, by dsimp only; rw [step s hc, p3, h1], by omega, p2, fun e e1 e2 => ?_⟩
    obtain ⟨tx', h2⟩ := hend (s.take e) (by rw [tk_len e2]; omega) (by omega)
    exact ⟨4, tx', by dsimp only; rw [step _ (tk_get hc (by omega)), p4 e e1 e2, h2]⟩

/-! #### Texts -/
def txO (tx : Str) (j : Int) (ok : Bool) : Option Out := some (.pv (.tup [.str tx, .int .i64 j, .bool ok]), [])
theorem all_app {l : List PV} (h : l.all isByte = true) (n : Int) : (l ++ [PV.int .u8 n]).all isByte = true := by
  rw [List.all_append, h]; rfl
theorem sm1 {l : List PV} {i : Nat} (h : l.length ≤ i) (hi : i ≤ 5000) : small l.length 1 1 = true := small_of (by omega)
theorem t1 {t : Str} {i : Nat} {l : List PV} {c : UInt8} (h : t[i]? = some c) (hi : i ≤ 5000) (hl : l.all isByte = true) (h34 : ((c.toNat : Int) == 34) = true) : L84_11014 t i l = txO (l.map toByte) (i + 1 : Nat) (decide ((l.length : Int) ≤ 64)) := by
  rw [e84_11014]
  simp only [dlt (lt_of h), dge, gI h, cond_true, Option.bind_some, h34, hl, wr1 hi]
  rfl
theorem t2 {t : Str} {i : Nat} {l : List PV} {c : UInt8} (h : t[i]? = some c) (h34 : ((c.toNat : Int) == 34) = false) (h32 : decide ((c.toNat : Int) < 32) = true) : L84_11014 t i l = txO [] i false := by
  rw [e84_11014]
  simp only [dlt (lt_of h), dge, gI h, cond_true, cond_false, Option.bind_some, h34, h32]
  rfl
theorem t3 {t : Str} {i : Nat} {l : List PV} {c : UInt8} (h : t[i]? = some c) (hi : i ≤ 5000) (hl : l.length ≤ i) (h34 : ((c.toNat : Int) == 34) = false) (h32 : decide ((c.toNat : Int) < 32) = false) (h92 : ((c.toNat : Int) != 92) = true) : L84_11014 t i l = L84_11014 t (i + 1 : Nat) (l ++ [.int .u8 (c.toNat : Int)]) := by
  rw [e84_11014]
  simp only [dlt (lt_of h), dge, gI h, cond_true, cond_false, Option.bind_some, h34, h32, h92, sm1 hl hi, wr1 hi]
theorem t4 {t : Str} {i : Nat} {l : List PV} {c : UInt8} (h : t[i]? = some c) (hi : i ≤ 5000) (h34 : ((c.toNat : Int) == 34) = false) (h32 : decide ((c.toNat : Int) < 32) = false) (h92 : ((c.toNat : Int) != 92) = false) (hn : t.length ≤ i + 1) : L84_11014 t i l = txO [] t.length false := by
  rw [e84_11014]
  simp only [dlt (lt_of h), dge, gI h, cond_true, cond_false, Option.bind_some, h34, h32, h92, wr1 hi, decide_eq_true (show ((i + 1 : Nat) : Int) ≥ (t.length : Int) by omega)]
  rfl
/-- After a stroke. -/
noncomputable def esc (t : Str) (i : Nat) (l : List PV) (c1 : UInt8) : Option Out :=
  bif (c1.toNat : Int) == 110 then L84_11014 t (i + 2 : Nat) (l ++ [.int .u8 10]) else L84_110145141110141316 t i l c1 (bif (c1.toNat : Int) == 34 then (c1.toNat : Int) == 34 else (c1.toNat : Int) == 92)
theorem t5 {t : Str} {i : Nat} {l : List PV} {c c1 : UInt8} (h : t[i]? = some c) (hi : i ≤ 5000) (hl : l.length ≤ i) (h34 : ((c.toNat : Int) == 34) = false) (h32 : decide ((c.toNat : Int) < 32) = false) (h92 : ((c.toNat : Int) != 92) = false) (h1 : t[i + 1]? = some c1) : L84_11014 t i l = esc t i l c1 := by
  have cf : ∀ (b x y : Bool), (bif b then L84_110145141110141316 t i l c1 x else L84_110145141110141316 t i l c1 y) = L84_110145141110141316 t i l c1 (bif b then x else y) := fun b x y => by cases b <;> rfl
  have := lt_of h1
  rw [e84_11014]
  simp only [dlt (lt_of h), dge, gI h, gI h1, cond_true, cond_false, Option.bind_some, h34, h32, h92, wr1 hi, wr2 hi, sm1 hl hi, decide_eq_false (show ¬ ((i + 1 : Nat) : Int) ≥ (t.length : Int) by omega), cf]
  rfl
def okT (s : Str) (i : Nat) (l : List PV) : Prop := (∃ tx j, L84_11014 s i l = txO tx j false) ∨ (∃ tx, ∃ j : Nat, L84_11014 s i l = txO tx j true ∧ i < j ∧ j ≤ s.length ∧ (∀ e, j ≤ e → e ≤ s.length → L84_11014 (s.take e) i l = txO tx j true) ∧ tx.length ≤ 64)
theorem okT_go {s : Str} {i d : Nat} {l l' : List PV} (hd : 1 ≤ d) (h : L84_11014 s i l = L84_11014 s (i + d : Nat) l') (hp : ∀ e, i + d ≤ e → e ≤ s.length → L84_11014 (s.take e) i l = L84_11014 (s.take e) (i + d : Nat) l') (hok : okT s (i + d) l') : okT s i l := by
  rcases hok with ⟨tx, j, h1⟩ | ⟨tx, j, h1, h2, h3, h4, h5⟩
  · exact .inl ⟨tx, j, h.trans h1⟩
  · exact .inr ⟨tx, j, h.trans h1, by omega, h3, fun e e1 e2 => (hp e (by omega) e2).trans (h4 e e1 e2), h5⟩
theorem text {s : Str} (hl : s.length ≤ 4000) : ∀ (n i : Nat) (l : List PV), s.length - i ≤ n → l.length ≤ i → l.all isByte = true → okT s i l := by
  intro n
  induction n with
  | zero =>
    intro i l h1 _ _
    left
    exact ⟨[], s.length, by rw [e84_11014, dnlt (by omega)]; rfl⟩
  | succ n ih =>
    intro i l h1 h2 h3
    rcases Nat.lt_or_ge i s.length with hi | hi
    · have hc : s[i]? = some s[i] := List.getElem?_eq_getElem hi
      cases h34 : (s[i].toNat : Int) == 34 with
      | true =>
        cases hd : decide ((l.length : Int) ≤ 64) with
        | false => exact .inl ⟨_, _, by rw [t1 hc (by omega) h3 h34, hd]⟩
        | true => exact .inr ⟨_, i + 1, by rw [t1 hc (by omega) h3 h34, hd], by omega, by omega, fun e e1 e2 => by rw [t1 (tk_get hc (by omega)) (by omega) h3 h34, hd], by have := of_decide_eq_true hd; rw [List.length_map]; omega⟩
      | false =>
        cases h32 : decide ((s[i].toNat : Int) < 32) with
        | true => exact .inl ⟨_, _, t2 hc h34 h32⟩
        | false =>
          cases h92 : (s[i].toNat : Int) != 92 with
          | true =>
            exact okT_go (d := 1) (by omega) (t3 hc (by omega) h2 h34 h32 h92) (fun e e1 e2 => t3 (tk_get hc (by omega)) (by omega) h2 h34 h32 h92) (ih (i + 1) _ (by omega) (by simp; omega) (all_app h3 _))
          | false =>
            rcases Nat.lt_or_ge (i + 1) s.length with hi1 | hi1
            · have hc1 : s[i + 1]? = some s[i + 1] := List.getElem?_eq_getElem hi1
              have go : ∀ (d : Nat) (l' : List PV), 2 ≤ d → (∀ t : Str, t[i]? = some s[i] → t[i + 1]? = some s[i + 1] → (∀ k, k < i + d → t[k]? = s[k]?) → i + d ≤ t.length → esc t i l s[i + 1] = L84_11014 t (i + d : Nat) l') → i + d ≤ s.length → l'.length ≤ i + d → l'.all isByte = true → okT s i l := fun d l' hd hes hle hl' ha => by
                refine okT_go (d := d) (by omega) ?_ (fun e e1 e2 => ?_) (ih (i + d) l' (by omega) hl' ha)
                · rw [t5 hc (by omega) h2 h34 h32 h92 hc1]
                  exact hes s hc hc1 (fun _ _ => rfl) hle
                · rw [t5 (tk_get hc (by omega)) (by omega) h2 h34 h32 h92 (tk_get hc1 (by omega))]
                  exact hes _ (tk_get hc (by omega)) (tk_get hc1 (by omega)) (fun k hk => by rw [List.getElem?_take, if_pos (by omega)]) (by rw [tk_len e2]; omega)
              cases h110 : (s[i + 1].toNat : Int) == 110 with
              | true => exact go 2 (l ++ [PV.int .u8 10]) (Nat.le_refl _) (fun t _ _ _ _ => by unfold esc; rw [h110]; simp only [cond_true]) (by omega) (by simp; omega) (all_app h3 10)
              | false =>
                cases hb : (bif (s[i + 1].toNat : Int) == 34 then (s[i + 1].toNat : Int) == 34 else (s[i + 1].toNat : Int) == 92) with
                | true =>
                  refine go 2 (l ++ [PV.int .u8 (s[i + 1].toNat : Int)]) (Nat.le_refl _) (fun t _ h1' _ _ => ?_) (by omega) (by simp; omega) (all_app h3 (s[i + 1].toNat : Int))
                  unfold esc
                  rw [h110, hb]
                  simp only [cond_false]
                  rw [e84_110145141110141316]
                  simp only [cond_true, wr1 (show i ≤ 5000 by omega), wr2 (show i ≤ 5000 by omega), dge, gI h1', Option.bind_some, sm1 h2 (show i ≤ 5000 by omega)]
                | false =>
                  have hes : ∀ t : Str, esc t i l s[i + 1] = L84_110145141110141316 t i l s[i + 1] false := fun t => by unfold esc; rw [h110, hb]; rfl
                  have hfail : ∀ tx j, esc s i l s[i + 1] = txO tx j false → okT s i l := fun tx j h => .inl ⟨tx, j, by rw [t5 hc (by omega) h2 h34 h32 h92 hc1, h]⟩
                  cases h120 : (s[i + 1].toNat : Int) == 120 with
                  | false => exact hfail _ _ (by rw [hes, e84_110145141110141316, h120]; rfl)
                  | true =>
                    rcases Nat.lt_or_ge (i + 3) s.length with hi3 | hi3
                    · have hc2 : s[i + 2]? = some s[i + 2] := List.getElem?_eq_getElem (by omega)
                      have hc3 : s[i + 3]? = some s[i + 3] := List.getElem?_eq_getElem hi3
                      obtain ⟨n2, b2, q2⟩ := b112 (s[i + 2].toNat : Int)
                      obtain ⟨n3, b3, q3⟩ := b112 (s[i + 3].toNat : Int)
                      have fits2 : ∀ (n : Int) (b : Bool), (Sh.tup [Sh.int .u8, Sh.bool]).fits (.tup [.int .u8 n, .bool b]) = true := fun _ _ => rfl
                      have e1 : ∀ t : Str, t[i + 2]? = some s[i + 2] → t[i + 3]? = some s[i + 3] → L84_110145141110141316 t i l s[i + 1] false = bif !b2 then txO [] i false else bif !b3 then txO [] i false else L84_11014 t (i + 4 : Nat) (l ++ [.int .u8 (IntKind.u8.wrap (BitVec.ofInt (IntKind.bits .u8) (IntKind.u8.wrap (n2 * 2 ^ (min (4 : Int).toNat (IntKind.bits .u8)))) ||| BitVec.ofInt (IntKind.bits .u8) n3).toNat)]) := fun t g2 g3 => by
                        have := lt_of g3
                        have w4 : IntKind.i64.wrap (((i + 2 : Nat) : Int) + (2 : Int)) = ((i + 4 : Nat) : Int) := by rw [wr2 (show i + 2 ≤ 5000 by omega)]
                        rw [e84_110145141110141316, h120]
                        simp only [cond_true, cond_false, wr3 (show i ≤ 5000 by omega), wr2 (show i ≤ 5000 by omega), dge, gI g2, gI g3, Option.bind_some, decide_eq_false (show ¬ ((i + 3 : Nat) : Int) ≥ (t.length : Int) by omega), q2, q3, retPV_pv, fits2, r_zero, r_succ, toBool_bool, toInt_int, sm1 h2 (show i ≤ 5000 by omega), w4]
                        rfl
                      cases b2 with
                      | false => exact hfail _ _ (by rw [hes, e1 s hc2 hc3]; rfl)
                      | true =>
                        cases b3 with
                        | false => exact hfail _ _ (by rw [hes, e1 s hc2 hc3]; rfl)
                        | true =>
                          exact go 4 (l ++ [PV.int .u8 (IntKind.u8.wrap (BitVec.ofInt (IntKind.bits .u8) (IntKind.u8.wrap (n2 * 2 ^ (min (4 : Int).toNat (IntKind.bits .u8)))) ||| BitVec.ofInt (IntKind.bits .u8) n3).toNat)]) (by omega) (fun t _ _ hk _ => by rw [hes, e1 t (by rw [hk _ (by omega)]; exact hc2) (by rw [hk _ (by omega)]; exact hc3)]; simp only [Bool.not_true, cond_false]) (by omega) (by simp; omega) (all_app h3 _)
                    · exact hfail [] s.length (by
                        rw [hes, e84_110145141110141316, h120]
                        simp only [cond_true, cond_false, wr3 (show i ≤ 5000 by omega), decide_eq_true (show ((i + 3 : Nat) : Int) ≥ (s.length : Int) by omega)]
                        rfl)
            · exact .inl ⟨_, _, t4 hc (by omega) h34 h32 h92 hi1⟩
    · left
      exact ⟨[], s.length, by rw [e84_11014, dnlt (by omega)]; rfl⟩
end Go.AL.S8.Tok
