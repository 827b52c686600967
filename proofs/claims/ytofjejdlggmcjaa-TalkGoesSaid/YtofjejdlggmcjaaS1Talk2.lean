/- Talks: what is ready, and runs. -/
import Derived.Test.YtofjejdlggmcjaaS1Talk
set_option linter.unusedVariables false
set_option linter.unusedSimpArgs false
namespace Go.AL.S1
open Go Go.AL

theorem nat_fits (n : Nat) : (Sh.int .i64).fits (eNat n) = true := nrfl rfl
theorem nat_i (n : Nat) : (eNat n).toInt = n := nrfl rfl
theorem int_fits (n : Int) : (Sh.int .i64).fits (eInt n) = true := nrfl rfl
theorem int_i (n : Int) : (eInt n).toInt = n := nrfl rfl

/-! #### Equal -/
theorem l23 {a b : List Int} (hl : a.length = b.length) (ha : a.length ≤ maxLen) : ∀ (l m : List Int) (k : Nat), a.drop k = l → b.drop k = m → L23_11014 (a.map eInt) (b.map eInt) k = some (.pv (.bool (l == m)), [])
  | [], m, k, h, h2 => by
    have : m = [] := by
      have e1 := congrArg List.length h
      have e2 := congrArg List.length h2
      simp at e1 e2
      exact List.eq_nil_of_length_eq_zero (by omega)
    subst this
    rw [e23_11014, endK_map h]
    rfl
  | x :: l, [], k, h, h2 => by
    have e1 := congrArg List.length h
    have e2 := congrArg List.length h2
    simp at e1 e2
    omega
  | x :: l, y :: m, k, h, h2 => by
    have A := atK_map (f := eInt) h ha
    have B := atK_map (f := eInt) h2 (by omega)
    have ih := l23 hl ha l m (k + 1) (atK h ha).drop (atK h2 (by omega)).drop
    rw [e23_11014]
    simp only [A.lt, A.ge, A.get, A.next, B.get, cond_true, Option.bind_some, int_fits, int_i]
    by_cases hxy : x = y
    · subst hxy
      rw [show (x != x) = false from by simp]
      simp only [cond_false]
      rw [ih]
      simp
    · rw [show (x != y) = true from by simpa using hxy]
      simp [hxy]
theorem v23 (a b : List Int) (ha : a.length ≤ maxLen) : V 23 [.pv (.lst (a.map eInt)), .pv (.lst (b.map eInt))] = some (.pv (.bool (a == b)), []) := by
  rw [e23]
  simp only [List.length_map]
  by_cases h : a.length = b.length
  · rw [show ((a.length : Int) != (b.length : Int)) = false from by simp [h]]
    exact l23 h ha a b 0 rfl rfl
  · rw [show ((a.length : Int) != (b.length : Int)) = true from by simp; omega]
    simp only [cond_true]
    rw [show (a == b) = false from by simp; rintro rfl; exact h rfl]

/-! #### Well formed nets -/
structure WF (ls : List Line) (ws : List (List Deed)) : Prop where
  nw : ws.length ≤ 8
  nl : ls.length ≤ 12
  line : ∀ x, x ∈ ls → 0 ≤ x.1 ∧ 0 ≤ x.2 ∧ x.1 < ws.length ∧ x.2 < ws.length ∧ x.1 ≠ x.2
  deeds : ∀ w, w ∈ ws → w.length ≤ 40
  deed : ∀ (i : Nat) w, ws[i]? = some w → ∀ d, d ∈ w → 0 ≤ d.1 ∧ d.1 < ls.length ∧ 0 ≤ d.2.2 ∧ d.2.2 ≤ 20 ∧ ∀ x, ls[d.1.toNat]? = some x → x.1 = i ∨ x.2 = i

theorem ckL_ok {m : Int} : ∀ {l : List Line}, ckL m l = 0 → ∀ x, x ∈ l → 0 ≤ x.1 ∧ 0 ≤ x.2 ∧ x.1 < m ∧ x.2 < m ∧ x.1 ≠ x.2
  | [], _, x, hx => by cases hx
  | y :: l, h, x, hx => by
    simp only [ckL] at h
    repeat' (split at h; · cases h)
    rcases List.mem_cons.1 hx with rfl | hx
    · exact ⟨by omega, by omega, by omega, by omega, by assumption⟩
    · exact ckL_ok h x hx
theorem ckD_ok {ls : List Line} {i : Int} : ∀ {l : List Deed}, ckD ls i l = 0 → ∀ d, d ∈ l → 0 ≤ d.1 ∧ d.1 < ls.length ∧ 0 ≤ d.2.2 ∧ d.2.2 ≤ 20 ∧ ∀ x, ls[d.1.toNat]? = some x → x.1 = i ∨ x.2 = i
  | [], _, x, hx => by cases hx
  | y :: l, h, d, hd => by
    simp only [ckD] at h
    split at h
    · cases h
    split at h
    · cases h
    split at h
    · cases h
    split at h
    · cases h
    obtain ⟨x, hx, _⟩ := get_int (xs := ls) (i := y.1) (by omega) (by omega)
    rw [hx] at h
    simp only at h
    split at h
    · cases h
    rename_i h5
    rcases List.mem_cons.1 hd with rfl | hd
    · refine ⟨by omega, by omega, by omega, by omega, fun z hz => ?_⟩
      rw [hx] at hz
      obtain rfl := Option.some.inj hz
      omega
    · exact ckD_ok h d hd
theorem ckW_ok {ls : List Line} : ∀ {l : List (List Deed)} {k : Nat}, ckW ls k l = 0 → ∀ (i : Nat) w, l[i]? = some w → w.length ≤ 40 ∧ ckD ls ((k + i : Nat) : Int) w = 0
  | [], k, _, i, w, h => by simp at h
  | v :: l, k, h, i, w, hw => by
    simp only [ckW] at h
    split at h
    · cases h
    split at h
    · contradiction
    rename_i h1 h2
    cases i with
    | zero =>
      simp at hw
      subst hw
      exact ⟨by omega, by simpa using h2⟩
    | succ i =>
      have := ckW_ok h i w (by simpa using hw)
      rw [show k + (i + 1) = k + 1 + i by omega]
      exact this
theorem check_ok {ls : List Line} {ws : List (List Deed)} (h : check ls ws = 0) : WF ls ws := by
  unfold check at h
  split at h
  · cases h
  split at h
  · cases h
  split at h
  · contradiction
  rename_i h1 h2 h3
  have h3 : ckL ws.length ls = 0 := by simpa using h3
  refine ⟨by omega, by omega, ckL_ok h3, fun w hw => ?_, fun i w hw => ?_⟩
  · obtain ⟨i, hi, rfl⟩ := List.mem_iff_getElem.1 hw
    exact (ckW_ok h i _ (List.getElem?_eq_getElem hi)).1
  · have := (ckW_ok h i w hw).2
    rw [Nat.zero_add] at this
    exact ckD_ok this

/-! #### Ready -/
structure Valid (ws : List (List Deed)) (at_ : List Nat) : Prop where
  len : at_.length = ws.length
  le : ∀ (i : Nat) k w, at_[i]? = some k → ws[i]? = some w → k ≤ w.length
def cur (ws : List (List Deed)) (at_ : List Nat) (p : Int) : Option Deed := (ws[p.toNat]?).bind fun w => (at_[p.toNat]?).bind fun k => w[k]?
def fits2 (i : Nat) (a b : Option Deed) : Bool := match a, b with | some x, some y => x.1 == i && (y.1 == i && (x.2.2 == y.2.2 && !(x.2.1 == y.2.1))) | _, _ => false
def readyL (ws : List (List Deed)) (at_ : List Nat) : List Line → Nat → List Nat
  | [], _ => []
  | x :: l, i => if fits2 i (cur ws at_ x.1) (cur ws at_ x.2) = true then i :: readyL ws at_ l (i + 1) else readyL ws at_ l (i + 1)

theorem cur_of {ws : List (List Deed)} {at_ : List Nat} (hv : Valid ws at_) {p : Int} (h0 : 0 ≤ p) (h1 : p < ws.length) : ∃ k w, (at_.map eNat)[p.toNat]? = some (eNat k) ∧ (ws.map eDs)[p.toNat]? = some (eDs w) ∧ k ≤ w.length ∧ cur ws at_ p = w[k]? := by
  obtain ⟨w, hw, _⟩ := get_int h0 h1
  obtain ⟨k, hk, _⟩ := get_int (xs := at_) h0 (by rw [hv.len]; exact h1)
  exact ⟨k, w, by simp [hk], by simp [hw], hv.le _ k w hk hw, by simp [cur, hk, hw]⟩

theorem l64 {ls : List Line} {ws : List (List Deed)} {at_ : List Nat} (hwf : WF ls ws) (hv : Valid ws at_) : ∀ (l : List Line) (k : Nat) (acc : List Nat), ls.drop k = l → acc.length ≤ k →
    L64_11014 (at_.map eNat) (acc.map eNat) (ls.map eLine) k (ws.map eDs) = some (.bld 1 ((acc ++ readyL ws at_ l k).map eNat), [])
  | [], k, acc, h, hacc => by
    rw [e64_11014, endK_map h]
    simp [readyL]
  | x :: l, k, acc, h, hacc => by
    have hls : ls.length ≤ maxLen := by have := hwf.nl; simp [maxLen]; omega
    have A := atK_map (f := eLine) h hls
    have A' := atK h hls
    have ih1 := l64 hwf hv l (k + 1) acc A'.drop (by omega)
    have ih2 := l64 hwf hv l (k + 1) (acc ++ [k]) A'.drop (by simp; omega)
    obtain ⟨g1, g2, g3, g4, g5⟩ := hwf.line x (List.mem_of_getElem? A'.get')
    obtain ⟨p, w, a1, a2, a3, a4⟩ := cur_of hv g1 g3
    obtain ⟨q, v, b1, b2, b3, b4⟩ := cur_of hv g2 g4
    have go : ∀ b : Bool, L64_110145110411116 (at_.map eNat) (acc.map eNat) k (ls.map eLine) b (ws.map eDs) = some (.bld 1 ((acc ++ (if b = true then k :: readyL ws at_ l (k + 1) else readyL ws at_ l (k + 1))).map eNat), []) := by
      intro b
      rw [e64_110145110411116]
      cases b with
      | true =>
        have hs : small (acc.map eNat).length 1 8 = true := small_of (by have := A'.ltn; have := hwf.nl; simp; omega)
        rw [hs, A.next]
        simp only [cond_true]
        have : (acc.map eNat) ++ [PV.int .i64 (k : Int)] = (acc ++ [k]).map eNat := by simp [eNat]
        rw [this, ih2]
        simp
      | false => simp only [cond_false]; rw [A.next, ih1]; simp
    rw [e64_11014]
    simp only [A.lt, A.ge, A.get, A.next, cond_true, Option.bind_some]
    simp only [line_fits, line_a, line_b, cond_true, a1, a2, b1, b2, Option.bind_some, nat_fits, ds_fits, nat_i, ds_l, List.length_map, dT g1, dT g2, dT (Int.natCast_nonneg p), dT (Int.natCast_nonneg q)]
    simp only [readyL, a4, b4]
    by_cases hp : p = w.length
    · rw [show ((p : Int) == (w.length : Int)) = true from by simp [hp], show w[p]? = none from by simp [hp]]
      simp only [cond_true, fits2, Bool.false_eq_true, if_false]
      exact ih1
    rw [show ((p : Int) == (w.length : Int)) = false from by simp; omega]
    obtain ⟨d, hd⟩ : ∃ d, w[p]? = some d := ⟨w[p]'(by omega), List.getElem?_eq_getElem _⟩
    simp only [cond_false]
    by_cases hq : q = v.length
    · rw [show ((q : Int) == (v.length : Int)) = true from by simp [hq], show v[q]? = none from by simp [hq], hd]
      simp only [cond_true, fits2, Bool.false_eq_true, if_false]
      exact ih1
    rw [show ((q : Int) == (v.length : Int)) = false from by simp; omega]
    obtain ⟨e, he⟩ : ∃ e, v[q]? = some e := ⟨v[q]'(by omega), List.getElem?_eq_getElem _⟩
    have hd' : (w.map eDeed)[(p : Int).toNat]? = some (eDeed d) := by simp [hd]
    have he' : (v.map eDeed)[(q : Int).toNat]? = some (eDeed e) := by simp [he]
    simp only [cond_false, hd', he', Option.bind_some, deed_fits, deed_l, deed_s, deed_m, cond_true, hd, he, fits2]
    simp only [go]
    cases (d.1 == (k : Int)) with
    | false => rfl
    | true => cases (e.1 == (k : Int)) with
      | false => rfl
      | true => cases (d.2.2 == e.2.2) with
        | false => rfl
        | true => cases (d.2.1 == e.2.1) <;> rfl

theorem v64 {ls : List Line} {ws : List (List Deed)} {at_ : List Nat} (hwf : WF ls ws) (hv : Valid ws at_) : V 64 [.pv (eNet ls ws), .pv (.lst (at_.map eNat))] = some (.bld 1 ((readyL ws at_ ls 0).map eNat), []) := by
  rw [e64]
  exact l64 hwf hv ls 0 [] rfl (Nat.le_refl _)
end Go.AL.S1
