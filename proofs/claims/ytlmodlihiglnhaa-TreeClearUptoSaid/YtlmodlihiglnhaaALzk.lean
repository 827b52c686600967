/- Small lemmas for plain laws: what simp needs to look at values laid out, and loops over lists. -/
import Derived.Test.YtlmodlihiglnhaaALzj
set_option linter.unusedVariables false
set_option linter.unusedSimpArgs false
namespace Go.AL
open Go.RowKit

/-- 'rfl', but not for simp to see: it keeps tests and what decides them together. -/
theorem nrfl {α : Sort _} {a b : α} (h : a = b) : a = b := h
theorem c_zero (a : PV) (l : List PV) : (PV.agg (a :: l)).c 0 = a := nrfl rfl
theorem c_succ (a : PV) (l : List PV) (n : Nat) : (PV.agg (a :: l)).c (n + 1) = (PV.agg l).c n := nrfl rfl
theorem r_zero (a : PV) (l : List PV) : (PV.tup (a :: l)).r 0 = a := nrfl rfl
theorem r_succ (a : PV) (l : List PV) (n : Nat) : (PV.tup (a :: l)).r (n + 1) = (PV.tup l).r n := nrfl rfl
theorem toInt_int (k : IntKind) (n : Int) : (PV.int k n).toInt = n := nrfl rfl
theorem toBool_bool (b : Bool) : (PV.bool b).toBool = b := nrfl rfl
theorem toStr_str (s : List UInt8) : (PV.str s).toStr = s := nrfl rfl
theorem toLst_lst (l : List PV) : (PV.lst l).toLst = l := nrfl rfl
theorem cl_int (k : IntKind) (n : Int) (o : Nat) : (PV.int k n).cl o = .int k n := nrfl rfl
theorem cl_bool (b : Bool) (o : Nat) : (PV.bool b).cl o = .bool b := nrfl rfl
theorem setc_int (k : IntKind) (n : Int) (o : Nat) (p : PV) : (PV.int k n).setc o p = p := nrfl rfl
theorem setc_bool (b : Bool) (o : Nat) (p : PV) : (PV.bool b).setc o p = p := nrfl rfl
theorem cells_int (k : IntKind) (n : Int) : (PV.int k n).cells = [.int k n] := nrfl rfl
theorem cells_bool (b : Bool) : (PV.bool b).cells = [.bool b] := nrfl rfl
theorem fits_i64 (n : Int) : (Sh.int .i64).fits (.int .i64 n) = true := nrfl rfl
theorem fits_u8 (n : Int) : (Sh.int .u8).fits (.int .u8 n) = true := nrfl rfl
theorem fits_bool (b : Bool) : Sh.bool.fits (.bool b) = true := nrfl rfl
theorem fits_strS (s : List UInt8) : Sh.str.fits (.str s) = true := nrfl rfl
theorem fits_lstS (l : List PV) : Sh.lst.fits (.lst l) = true := nrfl rfl
theorem fits_agg (l : List Sh) (cs : List PV) : (Sh.agg l).fits (.agg cs) = Sh.fitsL l cs true := nrfl rfl
theorem fits_tup (l : List Sh) (cs : List PV) : (Sh.tup l).fits (.tup cs) = Sh.fitsL l cs false := nrfl rfl
theorem fitsL_nil (o : Bool) : Sh.fitsL [] [] o = true := nrfl rfl
theorem fitsL_cons (s : Sh) (l : List Sh) (c : PV) (cs : List PV) (o : Bool) : Sh.fitsL (s :: l) (c :: cs) o = (s.fits c && (!o || c.one) && Sh.fitsL l cs o) := nrfl rfl
theorem one_int (k : IntKind) (n : Int) : (PV.int k n).one = true := nrfl rfl
theorem one_bool (b : Bool) : (PV.bool b).one = true := nrfl rfl
theorem one_str (s : List UInt8) : (PV.str s).one = true := nrfl rfl
theorem one_lst (l : List PV) : (PV.lst l).one = true := nrfl rfl
theorem retPV_pv (p : PV) : retPV (.pv p, []) = some p := nrfl rfl
theorem retPV_bld (n : Nat) (xs : List PV) : retPV (.bld n xs, []) = some (.lst xs) := nrfl rfl
theorem retB_bld (n : Nat) (xs : List PV) : retB n (.bld n xs, []) = some xs := by simp [retB]
theorem retV_vec (n : Nat) (xs : List PV) : retV n (.vec n xs, []) = some xs := by simp [retV]
theorem small_of {n m b : Nat} (h : (n + m) * b ≤ 141000000000000) : small n m b = true := by simp [small, h]
theorem some?_cons (a : PV) (l : List PV) : some? (a :: l) = some true := nrfl rfl

theorem wrap_i64 {n : Int} (h1 : -9223372036854775808 ≤ n) (h2 : n ≤ 9223372036854775807) : IntKind.i64.wrap n = n := by
  rw [IntKind.wrap_i64]; omega

/-- Tests, whatever decides them. -/
theorem dT {p : Prop} {h : Decidable p} (hp : p) : @decide p h = true := decide_eq_true hp
theorem dF {p : Prop} {h : Decidable p} (hp : ¬ p) : @decide p h = false := decide_eq_false hp
theorem cD {α : Type} {p : Prop} {h : Decidable p} (a b : α) : (bif @decide p h then a else b) = @ite α p h a b := by cases h <;> rfl

/-- What is known at a round of a loop over a list. -/
structure AtK {α : Type} (xs : List α) (k : Nat) (y : α) (l : List α) : Prop where
  lt : decide ((k : Int) < (xs.length : Int)) = true
  ge : decide (0 ≤ (k : Int)) = true
  get : xs[(k : Int).toNat]? = some y
  get' : xs[k]? = some y
  next : IntKind.i64.wrap ((k : Int) + 1) = ((k + 1 : Nat) : Int)
  drop : xs.drop (k + 1) = l
  ltn : k < xs.length
theorem atK {α : Type} {xs : List α} {k : Nat} {y : α} {l : List α} (h : xs.drop k = y :: l) (hlen : xs.length ≤ maxLen) : AtK xs k y l := by
  have hk : k < xs.length := by
    rcases Nat.lt_or_ge k xs.length with h1 | h1
    · exact h1
    · rw [List.drop_eq_nil_of_le h1] at h; cases h
  have hg : xs[k]? = some y := by
    have := congrArg (fun l => l[0]?) h
    simpa using this
  refine ⟨decide_eq_true (by omega), decide_eq_true (by omega), by simpa using hg, hg, ?_, ?_, hk⟩
  · have := wrap_nat (k := k + 1) (by omega)
    simpa using this
  · have := congrArg List.tail h
    simpa using this
theorem atK_map {α β : Type} {f : α → β} {xs : List α} {k : Nat} {y : α} {l : List α} (h : xs.drop k = y :: l) (hlen : xs.length ≤ maxLen) : AtK (xs.map f) k (f y) (l.map f) :=
  atK (by rw [← List.map_drop, h]; rfl) (by simpa using hlen)
theorem endK {α : Type} {xs : List α} {k : Nat} (h : xs.drop k = []) : decide ((k : Int) < (xs.length : Int)) = false := by
  have : xs.length ≤ k := by
    have := congrArg List.length h
    simp at this; omega
  exact decide_eq_false (by omega)
theorem endK_map {α β : Type} {f : α → β} {xs : List α} {k : Nat} (h : xs.drop k = []) : decide ((k : Int) < ((xs.map f).length : Int)) = false :=
  endK (by rw [← List.map_drop, h]; rfl)

theorem get_int {α : Type} {xs : List α} {i : Int} (h0 : 0 ≤ i) (h1 : i < xs.length) : ∃ x, xs[i.toNat]? = some x ∧ x ∈ xs := by
  have : i.toNat < xs.length := by omega
  exact ⟨xs[i.toNat], List.getElem?_eq_getElem this, List.getElem_mem this⟩
end Go.AL
