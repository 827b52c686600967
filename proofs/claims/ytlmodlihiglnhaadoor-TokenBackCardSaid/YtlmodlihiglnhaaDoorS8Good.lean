/- What is read and shown again: each token by its spelling. -/
import Derived.Test.YtlmodlihiglnhaaDoorS8Back
set_option linter.unusedVariables false
set_option linter.unusedSimpArgs false
set_option maxRecDepth 20000
namespace Go.AL.S8.Tok
open Go Go.AL Go.AL.S8

theorem all256 {p : UInt8 → Bool} (h : ∀ n : Fin 256, p (UInt8.ofNat n.val) = true) (c : UInt8) : p c = true := by
  have := h ⟨c.toNat, c256 c⟩
  rw [show UInt8.ofNat (⟨c.toNat, c256 c⟩ : Fin 256).val = c from UInt8.ofNat_toNat] at this
  exact this
def firstB (c : UInt8) : Bool := lowB c || (greatB c || (digB c || (sg c || (c.toNat : Int) == 34)))
theorem first_ok {c : UInt8} (h : firstB c = true) : ws c = false ∧ ((c.toNat : Int) == 35) = false := by
  have := all256 (p := fun c => !(firstB c) || (!(ws c) && !((c.toNat : Int) == 35))) (by decide +kernel) c
  simp only [h, Bool.not_true, Bool.false_or, Bool.and_eq_true, Bool.not_eq_true'] at this
  exact this
theorem sg_ok {c : UInt8} (h : sg c = true) : lowB c = false ∧ greatB c = false ∧ digB c = false ∧ ((c.toNat : Int) == 34) = false := by
  have := all256 (p := fun c => !(sg c) || (!(lowB c) && (!(greatB c) && (!(digB c) && !((c.toNat : Int) == 34))))) (by decide +kernel) c
  simp only [h, Bool.not_true, Bool.false_or, Bool.and_eq_true, Bool.not_eq_true'] at this
  exact ⟨this.1, this.2.1, this.2.2.1, this.2.2.2⟩
/-- What stands behind a token that was written. -/
def Sp (rest : Str) : Prop := rest = [] ∨ ∃ r, rest = 32 :: r
structure Good (k : Int) (tx x : Str) : Prop where
  ne : ∃ c r, x = c :: r ∧ firstB c = true
  len : x.length ≤ 4000
  shown : ∀ at_ : Int, V 21 [.pv (.agg [.int .i64 k, .str tx, .int .i64 at_])] = some (.pv (.tup [.str x, .int .i64 0]), [])
  read : ∀ pre rest, Sp rest → pre.length + x.length ≤ 4500 → nxV (pre ++ (x ++ rest)) pre.length = tkO k tx pre.length (pre.length + x.length : Nat) true

/-! #### Names -/
theorem all_in {s : Str} : ∀ (l : Str) (k : Nat), s.drop k = l → s.length ≤ 5000 → l.all innB = true → L85_11014 s k = some (.pv (.bool true), [])
  | [], k, h, _, _ => by
    have hk : s.length ≤ k := by
      have := congrArg List.length h
      simp at this; omega
    have hd : decide (((k : Nat) : Int) < ((s.map fun c => PV.int .u8 c.toNat).length : Int)) = false := decide_eq_false (by simp; omega)
    rw [e85_11014, hd]; rfl
  | c :: l, k, h, hs, hl => by
    simp only [List.all_cons, Bool.and_eq_true] at hl
    have hc : s[k]? = some c := by
      have := congrArg (fun x => x[0]?) h
      simpa [List.getElem?_drop] using this
    have hlt := lt_of hc
    have hd : s.drop (k + 1) = l := by
      rw [← List.drop_drop, h]; rfl
    have hg : (s.map fun c => PV.int .u8 c.toNat)[((k : Nat) : Int).toNat]? = some (.int .u8 (c.toNat : Int)) := by
      rw [Int.toNat_natCast, List.getElem?_map, hc]; rfl
    have hd2 : decide (((k : Nat) : Int) < ((s.map fun c => PV.int .u8 c.toNat).length : Int)) = true := decide_eq_true (by simp; omega)
    have hf : (Sh.int .u8).fits (.int .u8 (c.toNat : Int)) = true := rfl
    rw [e85_11014, hd2]
    simp only [cond_true, dge, hg, Option.bind_some, hf, PV.toInt, v83, retPV_pv, fits_bool, toBool_bool, hl.1, Bool.not_true, cond_false, wr1 (show k ≤ 5000 by omega)]
    exact all_in l (k + 1) hd hs hl.2
theorem v85 {f : FuncId} {c : UInt8} {run : Str} (hf : V f [.pv (.int .u8 (c.toNat : Int))] = some (.pv (.bool true), [])) (hin : (c :: run).all innB = true) (hl : (c :: run).length ≤ 16) : V 85 [.pv (.str (c :: run)), .pv (.fn f [])] = some (.pv (.bool true), []) := by
  have h1 : decide (((List.length (c :: run) : Nat) : Int) < 1) = false := decide_eq_false (by simp only [List.length_cons]; omega)
  have h2 : decide (((List.length (c :: run) : Nat) : Int) > 16) = false := decide_eq_false (by omega)
  have h3 : decide (List.length (c :: run) ≤ 2147483648) = true := decide_eq_true (by omega)
  have h0 : (c :: run)[(0 : Int).toNat]? = some c := rfl
  have hm : (([PV.int .u8 (c.toNat : Int)] ++ ([] : List PV)).map Arg.pv) = [Arg.pv (.int .u8 (c.toNat : Int))] := rfl
  rw [e85, h1, h2, h3, h0]
  simp only [cond_false, Option.bind_some, hm, hf, retPV_pv, fits_bool, toBool_bool, cond_true, Bool.not_true]
  exact all_in (c :: run) 0 rfl (by omega) hin
theorem stop_sp {p : UInt8 → Bool} (h32 : p 32 = false) {rest : Str} (h : Sp rest) : Stops p rest := by
  rintro c l rfl
  rcases h with h | ⟨r, h⟩
  · cases h
  · obtain ⟨rfl, rfl⟩ := List.cons.inj h; exact h32
theorem good_name {c : UInt8} {run : Str} (hc : (bif lowB c then true else greatB c) = true) (hin : (c :: run).all innB = true) (hl : (c :: run).length ≤ 16) : Good (kindN c (c :: run)) (c :: run) (c :: run) where
  ne := ⟨c, run, rfl, by
    unfold firstB
    cases h : lowB c with
    | true => rfl
    | false => rw [h] at hc; simp only [cond_false] at hc; rw [hc]; rfl⟩
  len := by omega
  shown at_ := by
    rw [e21]
    unfold kindN
    cases h : lowB c with
    | false =>
      rw [h] at hc
      simp only [cond_false] at hc
      have hv : V 82 [.pv (.int .u8 (c.toNat : Int))] = some (.pv (.bool true), []) := by rw [v82, hc]
      rw [show (bif false then (bif wordB (c :: run) then (3 : Int) else 1) else 2) = 2 from rfl, show ((2 : Int) == 1) = false from rfl, show ((2 : Int) == 2) = true from rfl, e45, v85 hv hin hl]
      rfl
    | true =>
      have hv : V 81 [.pv (.int .u8 (c.toNat : Int))] = some (.pv (.bool true), []) := by rw [v81, h]
      cases hw : wordB (c :: run) with
      | true =>
        rw [show (bif true then (bif true then (3 : Int) else 1) else 2) = 3 from rfl, show ((3 : Int) == 1) = false from rfl, show ((3 : Int) == 2) = false from rfl, show ((3 : Int) == 3) = true from rfl, v46, hw]
        rfl
      | false =>
        rw [show (bif true then (bif false then (3 : Int) else 1) else 2) = 1 from rfl, show ((1 : Int) == 1) = true from rfl, e44, v85 hv hin hl, v46, hw]
        rfl
  read pre rest hs hp := by
    rw [nxName hc hin (stop_sp rfl hs) (by omega), decide_eq_true (show (((c :: run).length : Nat) : Int) ≤ 16 by omega)]

/-! #### Numbers -/
theorem all_dig (k at_ : Int) {s : Str} : ∀ (l : Str) (i : Nat), s.drop i = l → s.length ≤ 5000 → l.all digB = true → L21_1014131313121014 true s i k at_ = some (.pv (.tup [.str s, .int .i64 0]), [])
  | [], i, h, _, _ => by
    have hk : s.length ≤ i := by
      have := congrArg List.length h
      simp at this; omega
    have hd : decide (((i : Nat) : Int) < ((s.map fun c => PV.int .u8 c.toNat).length : Int)) = false := decide_eq_false (by simp; omega)
    rw [e21_1014131313121014, hd]; rfl
  | c :: l, i, h, hs, hl => by
    simp only [List.all_cons, Bool.and_eq_true] at hl
    have hc : s[i]? = some c := by
      have := congrArg (fun x => x[0]?) h
      simpa [List.getElem?_drop] using this
    have hlt := lt_of hc
    have hd : s.drop (i + 1) = l := by
      rw [← List.drop_drop, h]; rfl
    have hg : (s.map fun c => PV.int .u8 c.toNat)[((i : Nat) : Int).toNat]? = some (.int .u8 (c.toNat : Int)) := by
      rw [Int.toNat_natCast, List.getElem?_map, hc]; rfl
    have hd2 : decide (((i : Nat) : Int) < ((s.map fun c => PV.int .u8 c.toNat).length : Int)) = true := decide_eq_true (by simp; omega)
    have hf : (Sh.int .u8).fits (.int .u8 (c.toNat : Int)) = true := rfl
    rw [e21_1014131313121014, hd2]
    simp only [cond_true, dge, hg, Option.bind_some, hf, PV.toInt, v47, retPV_pv, fits_bool, toBool_bool, hl.1, wr1 (show i ≤ 5000 by omega)]
    exact all_dig k at_ l (i + 1) hd hs hl.2
theorem good_dig {c : UInt8} {run : Str} (hin : (c :: run).all digB = true) (hl : (c :: run).length ≤ 4000) : Good 4 (c :: run) (c :: run) where
  ne := ⟨c, run, rfl, by
    simp only [List.all_cons, Bool.and_eq_true] at hin
    obtain ⟨n1, n2⟩ := low_not_dig hin.1
    unfold firstB; rw [n1, n2, hin.1]; rfl⟩
  len := hl
  shown at_ := by
    have h2 : decide (((List.length (c :: run) : Nat) : Int) ≤ 4000) = true := decide_eq_true (by omega)
    have h3 : decide (List.length (c :: run) ≤ 2147483648) = true := decide_eq_true (by omega)
    rw [e21, show ((4 : Int) == 1) = false from rfl, show ((4 : Int) == 2) = false from rfl, show ((4 : Int) == 3) = false from rfl, show ((4 : Int) == 4) = true from rfl, show (!((c :: run) == ([] : List UInt8))) = true from rfl, h2]
    simp only [cond_true, cond_false]
    rw [e21_10141313131216, h3]
    exact all_dig 4 at_ (c :: run) 0 rfl (by omega) hin
  read pre rest hs hp := by
    rw [nxDig hin (stop_sp rfl hs) (by omega)]
    congr
    rcases hs with rfl | ⟨r, rfl⟩
    · rfl
    · rfl

/-! #### Texts -/
theorem good_text {tx : Str} (hl : tx.length ≤ 64) : Good 5 tx (34 :: qs tx ++ [34]) where
  ne := ⟨34, qs tx ++ [34], rfl, rfl⟩
  len := by have := qs_len tx; simp only [List.cons_append, List.length_cons, List.length_append, List.length_nil]; omega
  shown at_ := by
    have fits2 : ∀ (l : Str) (n : Int), (Sh.tup [Sh.str, Sh.int .i64]).fits (.tup [.str l, .int .i64 n]) = true := fun _ _ => nrfl rfl
    rw [e21, show ((5 : Int) == 1) = false from rfl, show ((5 : Int) == 2) = false from rfl, show ((5 : Int) == 3) = false from rfl, show ((5 : Int) == 4) = false from rfl, show ((5 : Int) == 5) = true from rfl, v19 hl]
    unfold qO
    simp only [cond_true, cond_false, Option.bind_some, retPV_pv, fits2, r_zero, r_succ, toStr_str, toInt_int]
  read pre rest hs hp := by
    have hlen : (34 :: qs tx ++ [34]).length = (qs tx).length + 2 := by simp
    rw [hlen] at hp ⊢
    have := text_back (s := tx) (pre := pre) (suf := rest) hl (by omega)
    rw [show pre ++ (34 :: qs tx ++ [34] ++ rest) = pre ++ 34 :: (qs tx ++ 34 :: rest) by simp]
    exact this
end Go.AL.S8.Tok
