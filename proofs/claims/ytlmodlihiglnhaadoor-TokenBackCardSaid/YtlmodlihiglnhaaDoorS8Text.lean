/- A text, quoted, is one token that means it. -/
import Derived.Test.YtlmodlihiglnhaaDoorS8Tok2
set_option linter.unusedVariables false
set_option linter.unusedSimpArgs false
set_option maxRecDepth 20000
namespace Go.AL.S8.Tok
open Go Go.AL Go.AL.S8

def pb (c : UInt8) : PV := .int .u8 (c.toNat : Int)
theorem pb_byte (l : Str) : (l.map pb).all isByte = true := by
  rw [List.all_eq_true]; intro x hx; obtain ⟨c, _, rfl⟩ := List.mem_map.1 hx; rfl
theorem toByte_pb (c : UInt8) : toByte (pb c) = c := by
  simp [toByte, pb, PV.toInt]
theorem map_pb (l : Str) : (l.map pb).map toByte = l := by
  rw [List.map_map]
  conv => rhs; rw [← List.map_id l]
  exact List.map_congr_left fun c _ => toByte_pb c
/-- A digit as a byte. -/
def hb (n : Nat) : UInt8 := UInt8.ofNat (if n < 10 then 48 + n else 87 + n)
theorem sixteen {p : Nat → Prop} (h0 : p 0) (h1 : p 1) (h2 : p 2) (h3 : p 3) (h4 : p 4) (h5 : p 5) (h6 : p 6) (h7 : p 7) (h8 : p 8) (h9 : p 9) (h10 : p 10) (h11 : p 11) (h12 : p 12) (h13 : p 13) (h14 : p 14) (h15 : p 15) (n : Nat) (hn : n < 16) : p n := by
  obtain rfl | rfl | rfl | rfl | rfl | rfl | rfl | rfl | rfl | rfl | rfl | rfl | rfl | rfl | rfl | rfl : n = 0 ∨ n = 1 ∨ n = 2 ∨ n = 3 ∨ n = 4 ∨ n = 5 ∨ n = 6 ∨ n = 7 ∨ n = 8 ∨ n = 9 ∨ n = 10 ∨ n = 11 ∨ n = 12 ∨ n = 13 ∨ n = 14 ∨ n = 15 := by omega
  all_goals assumption
theorem hx_hb : ∀ n, n < 16 → hx n = ((hb n).toNat : Int) := sixteen rfl rfl rfl rfl rfl rfl rfl rfl rfl rfl rfl rfl rfl rfl rfl rfl
theorem v108 : ∀ n, n < 16 → V 108 [.pv (.int .u8 ((hb n).toNat : Int))] = some (.pv (.tup [.int .u8 (n : Int), .bool true]), []) := by
  apply sixteen
  all_goals exact (V_A pa 108 _).le 60 _ (by kernel_rfl)
theorem join16 : ∀ a : Fin 16, ∀ b : Fin 16, IntKind.u8.wrap (BitVec.ofInt (IntKind.bits .u8) (IntKind.u8.wrap (((a.val : Nat) : Int) * 2 ^ (min (4 : Int).toNat (IntKind.bits .u8)))) ||| BitVec.ofInt (IntKind.bits .u8) ((b.val : Nat) : Int)).toNat = ((16 * a.val + b.val : Nat) : Int) := by decide +kernel
theorem e41 (l : List PV) (n b : Int) : V 41 [.bld 1 l, .pv (.int .i64 n), .pv (.int .i64 b)] = hexP [.bld 1 l, .pv (.int .i64 n), .pv (.int .i64 b)] := V_prim pa (g := fun _ => hexP) rfl _
theorem c256 (c : UInt8) : c.toNat < 256 := UInt8.toNat_lt c
theorem v41 {l : List PV} (c : UInt8) (hl : l.length ≤ 5000) : V 41 [.bld 1 l, .pv (.int .i64 (IntKind.i64.wrap (c.toNat : Int))), .pv (.int .i64 16)] = some (.bld 1 (l ++ hexL c.toNat), []) := by
  have := c256 c
  rw [wrap_i64 (by omega) (by omega), e41]
  unfold hexP
  dsimp only
  rw [show Nat.beq 1 1 = true from rfl, decide_eq_true (show (0 : Int) ≤ (c.toNat : Int) by omega), decide_eq_true (show (c.toNat : Int) < 256 by omega), show ((16 : Int) == 16) = true from rfl, Nat.ble_eq_true_of_le (show l.length + 2 ≤ 1000000 by omega)]
  rfl

/-! #### The law of quoting -/
def plain (c : UInt8) : Bool := !((c.toNat : Int) == 34) && (!((c.toNat : Int) == 92) && (!((c.toNat : Int) == 10) && (!(decide ((c.toNat : Int) < 32)) && !(decide ((c.toNat : Int) > 126)))))
def qb (c : UInt8) : Str := bif (bif (c.toNat : Int) == 34 then true else (c.toNat : Int) == 92) then [92, c] else bif (c.toNat : Int) == 10 then [92, 110] else bif (bif decide ((c.toNat : Int) < 32) then true else decide ((c.toNat : Int) > 126)) then [92, 120, hb (c.toNat / 16), hb (c.toNat % 16)] else [c]
theorem qb_len (c : UInt8) : 1 ≤ (qb c).length ∧ (qb c).length ≤ 4 := by
  unfold qb
  cases (bif (c.toNat : Int) == 34 then true else (c.toNat : Int) == 92) with
  | true => simp
  | false =>
    cases (c.toNat : Int) == 10 with
    | true => simp
    | false => cases (bif decide ((c.toNat : Int) < 32) then true else decide ((c.toNat : Int) > 126)) <;> simp
def qs (l : Str) : Str := l.flatMap qb
theorem qs_len (l : Str) : l.length ≤ (qs l).length ∧ (qs l).length ≤ 4 * l.length := by
  induction l with
  | nil => simp [qs]
  | cons c l ih =>
    have := qb_len c
    simp only [qs, List.flatMap_cons, List.length_append, List.length_cons] at ih ⊢
    omega
theorem hex_pb (c : UInt8) : (bif decide ((c.toNat : Int) < 16) then [PV.int .u8 48] ++ hexL c.toNat else hexL c.toNat) = [hb (c.toNat / 16), hb (c.toNat % 16)].map pb := by
  have := c256 c
  by_cases h : c.toNat < 16
  · rw [decide_eq_true (show (c.toNat : Int) < 16 by omega)]
    unfold hexL
    rw [show Nat.blt c.toNat 16 = true from Nat.ble_eq_true_of_le h, Nat.div_eq_of_lt h, Nat.mod_eq_of_lt h]
    simp only [cond_true, hx_hb _ h]
    rfl
  · rw [decide_eq_false (show ¬ (c.toNat : Int) < 16 by omega)]
    unfold hexL
    rw [show Nat.blt c.toNat 16 = false from by
      cases h' : Nat.blt c.toNat 16 with
      | false => rfl
      | true => exact absurd (show c.toNat + 1 ≤ 16 from Nat.le_of_ble_eq_true h') (by omega)]
    simp only [cond_false, hx_hb _ (show c.toNat / 16 < 16 by omega), hx_hb _ (show c.toNat % 16 < 16 by omega)]
    rfl
theorem sm {l : List PV} {d : Nat} (h : l.length ≤ 5000) (hd : d ≤ 5) : small l.length d 1 = true := small_of (by omega)
def qO (l : Str) : Option Out := some (.pv (.tup [.str l, .int .i64 0]), [])
theorem pbs (acc : Str) (l : List UInt8) : acc.map pb ++ l.map pb = (acc ++ l).map pb := by simp
theorem q_step {s : Str} (hs : s.length ≤ 64) {k : Nat} {acc : Str} {c : UInt8} (hc : s[k]? = some c) (ha : acc.length ≤ 1 + 4 * k) : L19_111014 (acc.map pb) s k = L19_111014 ((acc ++ qb c).map pb) s (k + 1 : Nat) := by
  have hk := lt_of hc
  have cf : ∀ (b x y : Bool), (bif b then L19_111014511041416 (acc.map pb) (c.toNat : Int) s k x else L19_111014511041416 (acc.map pb) (c.toNat : Int) s k y) = L19_111014511041416 (acc.map pb) (c.toNat : Int) s k (bif b then x else y) := fun b x y => by cases b <;> rfl
  have cf2 : ∀ (b x y : Bool), (bif b then L19_1110145110414131316 (acc.map pb) (c.toNat : Int) s k x else L19_1110145110414131316 (acc.map pb) (c.toNat : Int) s k y) = L19_1110145110414131316 (acc.map pb) (c.toNat : Int) s k (bif b then x else y) := fun b x y => by cases b <;> rfl
  have hg : (s.map fun c => PV.int .u8 c.toNat)[((k : Nat) : Int).toNat]? = some (.int .u8 (c.toNat : Int)) := by
    rw [Int.toNat_natCast, List.getElem?_map, hc]; rfl
  have hl : (acc.map pb).length ≤ 5000 := by simp; omega
  have hf : (Sh.int .u8).fits (.int .u8 (c.toNat : Int)) = true := rfl
  rw [e19_111014, decide_eq_true (show ((k : Nat) : Int) < ((s.map fun c => PV.int .u8 c.toNat).length : Int) by simp; omega)]
  simp only [cond_true, dge, hg, Option.bind_some, hf, PV.toInt, cf]
  rw [e19_111014511041416]
  unfold qb
  cases (bif (c.toNat : Int) == 34 then true else (c.toNat : Int) == 92) with
  | true =>
    simp only [cond_true, sm hl (show 2 ≤ 5 by omega), wr1 (show k ≤ 5000 by omega)]
    rw [← pbs]; rfl
  | false =>
    cases (c.toNat : Int) == 10 with
    | true =>
      simp only [cond_true, cond_false, sm hl (show 2 ≤ 5 by omega), wr1 (show k ≤ 5000 by omega)]
      rw [← pbs]; rfl
    | false =>
      simp only [cond_false, cf2]
      rw [e19_1110145110414131316]
      cases (bif decide ((c.toNat : Int) < 32) then true else decide ((c.toNat : Int) > 126)) with
      | false =>
        simp only [cond_false, sm hl (show 1 ≤ 5 by omega), cond_true, wr1 (show k ≤ 5000 by omega)]
        rw [← pbs]; rfl
      | true =>
        have h4 := hex_pb c
        have e : (acc ++ [92, 120, hb (c.toNat / 16), hb (c.toNat % 16)]).map pb = (acc.map pb ++ [PV.int .u8 92, PV.int .u8 120]) ++ [hb (c.toNat / 16), hb (c.toNat % 16)].map pb := by
          rw [List.map_append, List.append_assoc]; rfl
        have h2 : (acc.map pb ++ [PV.int .u8 92, PV.int .u8 120]).length ≤ 4000 := by simp; omega
        have hs1 : small (acc.map pb ++ [PV.int .u8 92, PV.int .u8 120]).length 1 1 = true := sm (by omega) (by omega)
        simp only [cond_true, sm hl (show 2 ≤ 5 by omega), hs1]
        rw [e, ← h4]
        cases decide ((c.toNat : Int) < 16) with
        | true =>
          simp only [cond_true]
          rw [v41 c (by rw [List.length_append]; simp only [List.length_cons, List.length_nil]; omega)]
          simp only [Option.bind_some, wr1 (show k ≤ 5000 by omega), List.append_assoc]
          rfl
        | false =>
          simp only [cond_false]
          rw [v41 c (by omega)]
          simp only [Option.bind_some, wr1 (show k ≤ 5000 by omega)]
          rfl
theorem quote {s : Str} (hs : s.length ≤ 64) : ∀ (l : Str) (k : Nat) (acc : Str), s.drop k = l → k ≤ s.length → acc.length ≤ 1 + 4 * k → L19_111014 (acc.map pb) s k = qO (acc ++ qs l ++ [34])
  | [], k, acc, h, hk, ha => by
    have hk' : s.length ≤ k := by
      have := congrArg List.length h
      simp at this; omega
    rw [e19_111014, decide_eq_false (show ¬ ((k : Nat) : Int) < ((s.map fun c => PV.int .u8 c.toNat).length : Int) by simp; omega), sm (show (acc.map pb).length ≤ 5000 by simp; omega) (show 1 ≤ 5 by omega),
      show acc.map pb ++ [PV.int .u8 34] = (acc ++ [34]).map pb by rw [← pbs]; rfl, pb_byte, map_pb]
    simp only [cond_false, cond_true, qs, List.flatMap_nil, List.append_nil]
    rfl
  | c :: l, k, acc, h, hk, ha => by
    have hc : s[k]? = some c := by
      have := congrArg (fun x => x[0]?) h
      simpa [List.getElem?_drop] using this
    have hd : s.drop (k + 1) = l := by
      rw [← List.drop_drop, h]; rfl
    have hlt := lt_of hc
    have := qb_len c
    rw [q_step hs hc ha, quote hs l (k + 1) (acc ++ qb c) hd (by omega) (by rw [List.length_append]; omega)]
    simp [qs]
/-- A text that isn't too long, quoted. -/
theorem v19 {s : Str} (hs : s.length ≤ 64) : V 19 [.pv (.str s)] = qO (34 :: qs s ++ [34]) := by
  rw [e19, decide_eq_false (show ¬ (s.length : Int) > 64 by omega), decide_eq_true (show s.length ≤ 2147483648 by omega)]
  have := quote hs s 0 [34] rfl (by omega) (by simp)
  simp only [cond_false, cond_true]
  exact this
theorem v19_long {s : Str} (hs : 64 < s.length) : V 19 [.pv (.str s)] = some (.pv (.tup [.str [], .int .i64 2]), []) := by
  rw [e19, decide_eq_true (show (s.length : Int) > 64 by omega)]; rfl

/-! #### What is quoted is read -/
theorem at0 {pre suf : Str} {c : UInt8} : (pre ++ c :: suf)[pre.length]? = some c := by simp
theorem at1 {pre suf : Str} {a c : UInt8} : (pre ++ a :: c :: suf)[pre.length + 1]? = some c := by simp
theorem at2 {pre suf : Str} {a b c : UInt8} : (pre ++ a :: b :: c :: suf)[pre.length + 2]? = some c := by simp
theorem at3 {pre suf : Str} {a b d c : UInt8} : (pre ++ a :: b :: d :: c :: suf)[pre.length + 3]? = some c := by simp
theorem app1 (l : List PV) (c : UInt8) : l ++ [PV.int .u8 (c.toNat : Int)] = l ++ [c].map pb := rfl
theorem r_step (pre suf acc : Str) (c : UInt8) (hp : pre.length + (qb c).length ≤ 5000) (ha : acc.length ≤ pre.length) : L84_11014 (pre ++ qb c ++ suf) pre.length (acc.map pb) = L84_11014 (pre ++ qb c ++ suf) ((pre ++ qb c).length : Nat) ((acc ++ [c]).map pb) := by
  have hl : (acc.map pb).length ≤ pre.length := by simpa using ha
  have h256 := c256 c
  rw [← pbs]
  have h92 : (((92 : UInt8).toNat : Int) == 34) = false ∧ decide (((92 : UInt8).toNat : Int) < 32) = false ∧ (((92 : UInt8).toNat : Int) != 92) = false := ⟨rfl, rfl, rfl⟩
  unfold qb at hp ⊢
  cases h1 : (bif (c.toNat : Int) == 34 then true else (c.toNat : Int) == 92) with
  | true =>
    rw [h1] at hp
    simp only [cond_true, List.length_cons, List.length_nil, List.append_assoc, List.cons_append, List.nil_append, List.length_append] at hp ⊢
    rw [t5 at0 (by omega) hl h92.1 h92.2.1 h92.2.2 at1]
    unfold esc
    have h110 : ((c.toNat : Int) == 110) = false := by
      cases h34 : (c.toNat : Int) == 34 with
      | true => rw [show (c.toNat : Int) = 34 by simpa using h34]; rfl
      | false =>
        rw [h34] at h1
        rw [show (c.toNat : Int) = 92 by simpa using h1]; rfl
    have h1' : (bif (c.toNat : Int) == 34 then (c.toNat : Int) == 34 else (c.toNat : Int) == 92) = true := by
      cases h34 : (c.toNat : Int) == 34 with
      | true => rfl
      | false => rw [h34] at h1; exact h1
    rw [h110, h1']
    simp only [cond_false]
    rw [e84_110145141110141316]
    simp only [cond_true, wr1 (show pre.length ≤ 5000 by omega), wr2 (show pre.length ≤ 5000 by omega), dge, gI at1, Option.bind_some, sm1 hl (show pre.length ≤ 5000 by omega)]
    rfl
  | false =>
    rw [h1] at hp
    cases h2 : (c.toNat : Int) == 10 with
    | true =>
      rw [h2] at hp
      simp only [cond_true, cond_false, List.length_cons, List.length_nil, List.append_assoc, List.cons_append, List.nil_append, List.length_append] at hp ⊢
      rw [t5 at0 (by omega) hl h92.1 h92.2.1 h92.2.2 at1]
      unfold esc
      have h10 : (c.toNat : Int) = 10 := by simpa using h2
      have h10' : c.toNat = 10 := by omega
      have : c = 10 := UInt8.toNat_inj.1 h10'
      subst this
      rfl
    | false =>
      rw [h2] at hp
      cases h3 : (bif decide ((c.toNat : Int) < 32) then true else decide ((c.toNat : Int) > 126)) with
      | false =>
        rw [h3] at hp
        simp only [cond_false, List.length_cons, List.length_nil, List.append_assoc, List.cons_append, List.nil_append, List.length_append] at hp ⊢
        have a1 : ((c.toNat : Int) == 34) = false := by
          cases h : (c.toNat : Int) == 34 with
          | false => rfl
          | true => rw [h] at h1; cases h1
        have a2 : ((c.toNat : Int) == 92) = false := by rw [a1] at h1; exact h1
        have a3 : decide ((c.toNat : Int) < 32) = false := by
          cases h : decide ((c.toNat : Int) < 32) with
          | false => rfl
          | true => rw [h] at h3; cases h3
        rw [t3 at0 (by omega) hl a1 a3 (by simp only [bne, a2]; rfl)]
        rfl
      | true =>
        rw [h3] at hp
        simp only [cond_true, cond_false, List.length_cons, List.length_nil, List.append_assoc, List.cons_append, List.nil_append, List.length_append] at hp ⊢
        rw [t5 at0 (by omega) hl h92.1 h92.2.1 h92.2.2 at1]
        unfold esc
        rw [show (((120 : UInt8).toNat : Int) == 110) = false from rfl, show (bif ((120 : UInt8).toNat : Int) == 34 then ((120 : UInt8).toNat : Int) == 34 else ((120 : UInt8).toNat : Int) == 92) = false from rfl]
        simp only [cond_false]
        rw [e84_110145141110141316]
        have w4 : IntKind.i64.wrap (((pre.length + 2 : Nat) : Int) + (2 : Int)) = ((pre.length + 4 : Nat) : Int) := by rw [wr2 (show pre.length + 2 ≤ 5000 by omega)]
        have fits2 : ∀ (n : Int) (b : Bool), (Sh.tup [Sh.int .u8, Sh.bool]).fits (.tup [.int .u8 n, .bool b]) = true := fun _ _ => rfl
        have hj := join16 ⟨c.toNat / 16, by omega⟩ ⟨c.toNat % 16, by omega⟩
        dsimp only at hj
        rw [Nat.div_add_mod] at hj
        simp only [show (((120 : UInt8).toNat : Int) == 120) = true from rfl, cond_true, cond_false, wr3 (show pre.length ≤ 5000 by omega), wr2 (show pre.length ≤ 5000 by omega), dge, gI at2, gI at3, Option.bind_some, v108 _ (show c.toNat / 16 < 16 by omega), v108 _ (show c.toNat % 16 < 16 by omega), retPV_pv, fits2, r_zero, r_succ, toBool_bool, toInt_int, Bool.not_true, sm1 hl (show pre.length ≤ 5000 by omega), w4,
          decide_eq_false (show ¬ ((pre.length + 3 : Nat) : Int) ≥ ((pre ++ (92 : UInt8) :: 120 :: hb (c.toNat / 16) :: hb (c.toNat % 16) :: suf).length : Int) by simp; omega)]
        rw [hj]
        rfl
theorem readq : ∀ (l pre suf acc : Str), pre.length + (qs l).length + 1 ≤ 5000 → acc.length ≤ pre.length → L84_11014 (pre ++ (qs l ++ 34 :: suf)) pre.length (acc.map pb) = txO (acc ++ l) (pre.length + (qs l).length + 1 : Nat) (decide (((acc ++ l).length : Int) ≤ 64))
  | [], pre, suf, acc, hp, ha => by
    have hl : (acc.map pb).length ≤ pre.length := by simpa using ha
    simp only [qs, List.flatMap_nil, List.nil_append, List.length_nil, Nat.add_zero, List.append_nil]
    rw [t1 at0 (by omega) (pb_byte acc) rfl, map_pb, List.length_map]
  | c :: l, pre, suf, acc, hp, ha => by
    have e : qs (c :: l) = qb c ++ qs l := by simp [qs]
    rw [e, List.length_append] at hp
    have h1 := r_step pre (qs l ++ 34 :: suf) acc c (by omega) ha
    have h2 := readq l (pre ++ qb c) suf (acc ++ [c]) (by simp only [List.length_append]; omega) (by have := qb_len c; simp only [List.length_append, List.length_cons, List.length_nil]; omega)
    have e2 : pre ++ (qs (c :: l) ++ 34 :: suf) = pre ++ qb c ++ (qs l ++ 34 :: suf) := by rw [e]; simp only [List.append_assoc]
    rw [e2, h1, h2, e]
    simp only [List.length_append, List.length_cons, List.length_nil, List.append_assoc, List.cons_append, List.nil_append]
    congr 2
    omega
theorem low34 : V 81 [.pv (.int .u8 34)] = some (.pv (.bool false), []) := (V_A pa 81 _).le 60 _ (by kernel_rfl)
theorem great34 : V 82 [.pv (.int .u8 34)] = some (.pv (.bool false), []) := (V_A pa 82 _).le 60 _ (by kernel_rfl)
theorem digit34 : V 47 [.pv (.int .u8 34)] = some (.pv (.bool false), []) := (V_A pa 47 _).le 60 _ (by kernel_rfl)
theorem nx34 {t : Str} {i : Nat} (h : t[i]? = some 34) : nxV t i = txY t i := by
  have e34 : ((34 : UInt8).toNat : Int) = 34 := rfl
  unfold nxV
  rw [e43]
  simp only [dge, gI h, cond_true, Option.bind_some, e34, low34, great34, retPV_pv, fits_bool, toBool_bool, cond_false]
  rw [e43_1110416]
  simp only [cond_false, e34, digit34, Option.bind_some, retPV_pv, fits_bool, toBool_bool, cond_true]
  rfl
theorem ws34 : ws 34 = false := rfl
/-- A quoted text is read as one token. -/
theorem text_back {s pre suf : Str} (hs : s.length ≤ 64) (hp : pre.length + (qs s).length + 2 ≤ 5000) : nxV (pre ++ 34 :: (qs s ++ 34 :: suf)) pre.length = tkO 5 s pre.length (pre.length + (qs s).length + 2 : Nat) true := by
  rw [nx34 at0]
  unfold txY
  have h := readq s (pre ++ [34]) suf [] (by simp only [List.length_append, List.length_cons, List.length_nil]; omega) (by simp)
  rw [List.append_assoc] at h
  simp only [List.cons_append, List.nil_append, List.length_append, List.length_cons, List.length_nil, List.map_nil] at h
  rw [e84, wr1 (show pre.length ≤ 5000 by omega), show pre.length + 1 = pre.length + (0 + 1) from rfl, h]
  unfold txO tkO
  simp only [Option.bind_some, retPV_pv, fitsT, cond_true, r_zero, r_succ, toInt_int, toBool_bool]
  rw [decide_eq_true (show ((s.length : Nat) : Int) ≤ 64 by omega), show pre.length + (0 + 1) + (qs s).length + 1 = pre.length + (qs s).length + 2 by omega]
  rfl
end Go.AL.S8.Tok
