/- Free names: what is bound, what counts, what is free. -/
import Derived.Test.YtlmodlihiglnhaaDoorS10Judge
import Derived.Test.YtlmodlihiglnhaaDoorS10EE
set_option linter.unusedVariables false
set_option linter.unusedSimpArgs false
set_option maxRecDepth 20000
namespace Go.AL.S10.Fr
open Go Go.AL Go.AL.S10

/-! #### Names -/
def idx (s : Str) : List Str → Nat → Int
  | [], _ => -1
  | x :: l, k => bif s == x then k else idx s l (k + 1)
theorem l63 {xs : List Str} {s : Str} (hl : xs.length ≤ maxLen) : ∀ (l : List Str) (k : Nat), xs.drop k = l → L63_1014 (xs.map .str) s k = some (.pv (.int .i64 (idx s l k)), [])
  | [], k, h => by
    rw [e63_1014, endK_map h]
    rfl
  | x :: l, k, h => by
    have A := atK_map (f := PV.str) h hl
    have ih := l63 (s := s) hl l (k + 1) (atK h hl).drop
    rw [e63_1014]
    simp only [A.lt, A.ge, A.get, A.next, cond_true, Option.bind_some]
    simp only [fits_strS, toStr_str, cond_true, idx]
    cases s == x with
    | true => rfl
    | false => exact ih
theorem v63 {xs : List Str} {s : Str} (hl : xs.length ≤ maxLen) : V 63 [.pv (.lst (xs.map .str)), .pv (.str s)] = some (.pv (.int .i64 (idx s xs 0)), []) := by
  rw [e63]; exact l63 hl xs 0 rfl
theorem idx_spec (s : Str) : ∀ (l : List Str) (k : Nat), (idx s l k = -1 ∧ s ∉ l) ∨ ∃ j : Nat, idx s l k = ((k + j : Nat) : Int) ∧ l[j]? = some s
  | [], k => .inl ⟨rfl, by simp⟩
  | x :: l, k => by
    simp only [idx]
    cases hb : s == x with
    | true =>
      right
      have := beq_iff_eq.1 hb
      subst this
      exact ⟨0, by simp, by simp⟩
    | false =>
      have hne : s ≠ x := by simpa using hb
      rcases idx_spec s l (k + 1) with ⟨h1, h2⟩ | ⟨j, h1, h2⟩
      · left; exact ⟨by simpa using h1, by simp [hne, h2]⟩
      · right; exact ⟨j + 1, by simp only [cond_false]; rw [h1]; congr 1; omega, by simpa using h2⟩
def has (xs : List Str) (s : Str) : Bool := decide (s ∈ xs)
theorem v25 {xs : List Str} {s : Str} (hl : xs.length ≤ maxLen) : V 25 [.pv (.lst (xs.map .str)), .pv (.str s)] = some (.pv (.bool (has xs s)), []) := by
  rw [e25, v63 hl]
  simp only [Option.bind_some, retPV_pv, fits_i64, cond_true, toInt_int, has]
  rcases idx_spec s xs 0 with ⟨h1, h2⟩ | ⟨j, h1, h2⟩
  · rw [h1, decide_eq_false h2]; rfl
  · have hm := List.mem_of_getElem? h2
    rw [h1, decide_eq_true hm, decide_eq_true (by omega)]
theorem headOk_str (l : List Str) : headOk 1 (l.map .str) = true := by cases l <;> rfl
theorem v72 {l : List Str} (h : l.length ≤ 2 * BIG) : V 72 [.pv (.lst (l.map .str))] = some (.bld 1 (l.map .str), []) := by
  rw [e72]
  unfold cloneOut
  have h2 : small 0 (l.map PV.str).length 16 = true := small_of (by simp only [BIG] at h; simp; omega)
  rw [headOk_str, h2]
  rfl
theorem bk_ex' (e : Ex) : e.names.length + (sumE e.args + sumA e.arms) + 2 ≤ bk e.enc := by
  have hn : ∀ l : List Str, l.length ≤ bkL (l.map .str) := by
    intro l
    induction l with
    | nil => simp
    | cons s l ih => simp only [List.map_cons, bkL, bk, List.length_cons]; omega
  have := hn e.names
  unfold sumE sumA
  rw [ex_enc]
  simp only [bk, bkL] at this ⊢
  rw [← bkL_map, ← bkL_map]
  omega
def inn (e : Ex) (k : Nat) (w : List Str) : List Str := if e.kind = 10 then w ++ e.names else if e.kind = 6 ∧ k = 1 then w ++ [e.text] else w
theorem inn_len (e : Ex) (k : Nat) (w : List Str) : (inn e k w).length ≤ w.length + e.names.length + 1 := by
  unfold inn
  split
  · rw [List.length_append]; omega
  · split
    · rw [List.length_append]; simp
    · omega

theorem stepB {e x : Ex} {n : Int} {w out o2 : List Str} {k : Nat} {l : List Ex} (h : (e.args.take n.toNat).drop k = x :: l) (hl : e.args.length ≤ BIG) (hw : w.length + e.names.length ≤ 2 * BIG)
    (hV : V 74 [.pv x.enc, .pv (.lst ((inn e k w).map .str)), .bld 1 (out.map .str)] = some (.bld 1 (o2.map .str), [])) :
    L74_111014 (w.map .str) (out.map .str) (e.args.map Ex.enc) n k e.kind e.num e.text (e.names.map .str) e.types (e.arms.map eArm) e.at_ = L74_111014 (w.map .str) (o2.map .str) (e.args.map Ex.enc) n (k + 1 : Nat) e.kind e.num e.text (e.names.map .str) e.types (e.arms.map eArm) e.at_ := by
  have hlen : (e.args.take n.toNat).length ≤ maxLen := len_max (by simp; omega)
  have A := atK_map (f := Ex.enc) h hlen
  have ht : (e.args.map Ex.enc).take n.toNat = (e.args.take n.toNat).map Ex.enc := (List.map_take ..).symm
  have hcl := v72 (l := w) (by omega)
  have hs1 : small (w.map PV.str).length 1 16 = true := small_of (by simp only [BIG] at hw; simp; omega)
  have hs2 : small (w.map PV.str).length (e.names.map PV.str).length 16 = true := small_of (by simp only [BIG] at hw; simp; omega)
  rw [e74_111014 (out := out.map .str)]
  simp only [ht, A.lt, A.ge, A.get, cond_true, Option.bind_some]
  simp only [ex_fits, cond_true]
  cases h6 : e.kind == 6 with
  | true =>
    have e6 : e.kind = 6 := by simpa using h6
    have h10 : (e.kind == 10) = false := by rw [e6]; rfl
    simp only [cond_true]
    rw [e74_1110145110411016]
    by_cases hk : k = 1
    · subst hk
      have hi : inn e 1 w = w ++ [e.text] := by unfold inn; rw [if_neg (by omega), if_pos ⟨e6, rfl⟩]
      rw [hi] at hV
      rw [show (((1 : Nat) : Int) == 1) = true from rfl]
      simp only [cond_true, hcl, Option.bind_some, retB_bld, hs1]
      rw [e74_111014511041116, h10]
      simp only [cond_false, ex_eta]
      rw [show w.map PV.str ++ [.str e.text] = (w ++ [e.text]).map .str by simp, hV]
      simp only [Option.bind_some, retB_bld]
      rfl
    · have hi : inn e k w = w := by unfold inn; rw [if_neg (by omega), if_neg (by omega)]
      rw [hi] at hV
      rw [show ((k : Int) == 1) = false from beq_eq_false_iff_ne.2 (by omega)]
      simp only [cond_false]
      rw [e74_111014511041116, h10]
      simp only [cond_false, ex_eta]
      rw [hV]
      simp only [Option.bind_some, retB_bld, A.next]
  | false =>
    have e6 : e.kind ≠ 6 := by simpa using h6
    simp only [cond_false]
    rw [e74_1110145110411016]
    simp only [cond_false]
    rw [e74_111014511041116]
    cases h10 : e.kind == 10 with
    | true =>
      have e10 : e.kind = 10 := by simpa using h10
      have hi : inn e k w = w ++ e.names := by unfold inn; rw [if_pos e10]
      rw [hi] at hV
      simp only [cond_true, hcl, Option.bind_some, retB_bld, headOk_str, hs2, ex_eta]
      rw [← List.map_append, hV]
      simp only [Option.bind_some, retB_bld, A.next]
    | false =>
      have e10 : e.kind ≠ 10 := by simpa using h10
      have hi : inn e k w = w := by unfold inn; rw [if_neg e10, if_neg (by omega)]
      rw [hi] at hV
      simp only [cond_false, ex_eta]
      rw [hV]
      simp only [Option.bind_some, retB_bld, A.next]

theorem stepC {arms : List (Pa × Ex)} {x : Pa × Ex} {l : List (Pa × Ex)} {w ns out o2 : List Str} {k : Nat} (h : arms.drop k = x :: l) (hl : arms.length ≤ BIG) (hw : w.length + ns.length ≤ 2 * BIG) (hp : (V 62 [.pv x.1.enc]).bind retPV = some (.lst (ns.map .str)))
    (hV : V 74 [.pv x.2.enc, .pv (.lst ((w ++ ns).map .str)), .bld 1 (out.map .str)] = some (.bld 1 (o2.map .str), [])) :
    L74_111101214 (w.map .str) (out.map .str) (arms.map eArm) k = L74_111101214 (w.map .str) (o2.map .str) (arms.map eArm) (k + 1 : Nat) := by
  have A := atK_map (f := eArm) h (len_max hl)
  have hcl := v72 (l := w) (by omega)
  have hs2 : small (w.map PV.str).length (ns.map PV.str).length 16 = true := small_of (by simp only [BIG] at hw; simp; omega)
  rw [e74_111101214 (out := out.map .str)]
  simp only [A.lt, A.ge, A.get, A.next, cond_true, Option.bind_some]
  simp only [arm_fits, arm_ex, arm_pa, cond_true, hcl, hp, Option.bind_some, retB_bld, fits_lstS, toLst_lst, headOk_str, hs2]
  rw [← List.map_append, hV]
  simp only [Option.bind_some, retB_bld]
end Go.AL.S10.Fr
