/- The law: where all names are known, the free names of a body are those outside. -/
import Derived.Test.YtlmodlihiglnhaaDoorS10Right
import Derived.Test.YtlmodlihiglnhaaDoorS10Scope
set_option linter.unusedVariables false
set_option linter.unusedSimpArgs false
set_option maxRecDepth 20000
namespace Go.AL.S10.Sc
open Go Go.AL Go.AL.S10 Go.AL.S10.Fr

theorem l73 {xs ns : List Str} (hl : xs.length ≤ maxLen) (hn : ns.length ≤ maxLen) (hs : ∀ s, s ∈ xs → s ∈ ns) : ∀ (l : List Str) (k : Nat), xs.drop k = l → L73_1014 (xs.map .str) 33 [.ptr [.lst (ns.map .str)]] k = some (.pv (.int .i64 (-1)), [])
  | [], k, h => by rw [e73_1014, endK_map h]; rfl
  | x :: l, k, h => by
    have A := atK_map (f := PV.str) h hl
    have A' := atK h hl
    have ih := l73 hl hn hs l (k + 1) A'.drop
    have h25 := v25 (xs := ns) (s := x) hn
    have hh : has ns x = true := decide_eq_true (hs x (mem_drop h))
    rw [hh] at h25
    have h33 : V 33 [.pv (.str x), .pv (.ptr [.lst (ns.map .str)])] = some (.pv (.bool false), []) := by
      rw [e33, h25]; rfl
    rw [e73_1014]
    simp only [A.lt, A.ge, A.get, A.next, cond_true, Option.bind_some]
    simp only [fits_strS, toStr_str, cond_true, List.cons_append, List.nil_append, List.map_cons, List.map_nil, h33, Option.bind_some, retPV_pv, fits_bool, toBool_bool, cond_false]
    exact ih
theorem v31 {xs ns : List Str} (hl : xs.length ≤ maxLen) (hn : ns.length ≤ maxLen) (hs : ∀ s, s ∈ xs → s ∈ ns) : V 31 [.pv (.lst (xs.map .str)), .pv (.fn 33 [.ptr [.lst (ns.map .str)]])] = some (.pv (.bool false), []) := by
  rw [e31, e73]
  rw [show L73_1014 (xs.map .str) 33 [.ptr [.lst (ns.map .str)]] 0 = _ from l73 hl hn hs xs 0 rfl]
  rfl
theorem step {p : Pq} (hp : OkPq p) (hb : bk p.enc ≤ BIG) {ns : List Str} (hn : ns.length ≤ BIG) {x : Ex} (hx : bk x.enc ≤ BIG) (hxb : Bd p x) (hR : ∀ e, Bd p e → Rt e) :
    ∃ a b : Int, V 30 [.pv p.enc, .pv (.lst (ns.map .str)), .pv x.enc] = some (.pv (.tup [.int .i64 a, .int .i64 b]), []) ∧ (a = 0 → ∃ r : List Str, V 32 [.pv x.enc] = some (.bld 1 (r.map .str), []) ∧ V 31 [.pv (.lst (r.map .str)), .pv (.fn 33 [.ptr [.lst (ns.map .str)]])] = some (.pv (.bool false), [])) := by
  obtain ⟨a, b, q1, q2⟩ := oneE hb hx ns (by omega)
  unfold exV at q1
  refine ⟨a, b, q1, fun ha => ?_⟩
  obtain ⟨r, r1, r2, r3⟩ := v32 (hR x hxb) hx
  exact ⟨r, r1, v31 (len_max (by omega)) (len_max hn) fun s hs => q2 ha s ((r3 s).1 hs)⟩
theorem l8v {p : Pq} (hp : OkPq p) (hb : bk p.enc ≤ BIG) {ns : List Str} (hn : ns.length ≤ BIG) {P : List Ex} (hl : P.length ≤ maxLen) (hP : ∀ x, x ∈ P → bk x.enc ≤ BIG ∧ Bd p x) : ∀ (l : List Ex) (k : Nat), P.drop k = l →
    L8_111014v1 (P.map Ex.enc) k p.nm p.ver (p.us.map eUs) (p.ds.map eDt) (p.ts.map eTr) (p.is.map eIm) (p.fs.map eFu) (p.ac.map eAc) (ns.map .str) = some (.pv (.bool true), [])
  | [], k, h => by rw [e8_111014v1, endK_map h]; rfl
  | x :: l, k, h => by
    have A := atK_map (f := Ex.enc) h hl
    have A' := atK h hl
    have ih := l8v hp hb hn hl hP l (k + 1) A'.drop
    obtain ⟨v, h23, hv⟩ := rightB hp hb
    obtain ⟨hx, hxb⟩ := hP x (mem_drop h)
    rw [e8_111014v1]
    simp only [A.lt, A.ge, A.get, A.next, cond_true, Option.bind_some]
    simp only [ex_fits, ex_eta, cond_true, ← pq_enc, h23, Option.bind_some, retPV_pv, fits_i64, toInt_int]
    cases hv0 : v != 0 with
    | true => rfl
    | false =>
      have v0 : v = 0 := by simpa using hv0
      obtain ⟨a, b, q1, q2⟩ := step hp hb hn hx hxb (hv v0)
      simp only [cond_false, q1, Option.bind_some, retPV_pv, fitsII, cond_true, r_zero, toInt_int]
      cases ha : a == 0 with
      | false => exact ih
      | true =>
        have a0 : a = 0 := by simpa using ha
        obtain ⟨r, r1, r2⟩ := q2 a0
        simp only [cond_true, r1, Option.bind_some, retPV_bld, fits_lstS, toLst_lst, r2, retPV_pv, fits_bool, toBool_bool, cond_false]
        exact ih
theorem l8 {p : Pq} (hp : OkPq p) (hb : bk p.enc ≤ BIG) {ns : List Str} (hn : ns.length ≤ BIG) {P : List Ex} (hl : P.length ≤ maxLen) (hP : ∀ x, x ∈ P → bk x.enc ≤ BIG ∧ Bd p x) : ∀ (l : List Ex) (k : Nat), P.drop k = l →
    L8_111014 (P.map Ex.enc) k p.nm p.ver (p.us.map eUs) (p.ds.map eDt) (p.ts.map eTr) (p.is.map eIm) (p.fs.map eFu) (p.ac.map eAc) (ns.map .str) = some (.pv (.bool true), [])
  | [], k, h => by rw [e8_111014, endK_map h]; rfl
  | x :: l, k, h => by
    have A := atK_map (f := Ex.enc) h hl
    have A' := atK h hl
    have ih := l8 hp hb hn hl hP l (k + 1) A'.drop
    have ih2 := l8v hp hb hn hl hP l (k + 1) A'.drop
    obtain ⟨v, h23, hv⟩ := rightB hp hb
    obtain ⟨hx, hxb⟩ := hP x (mem_drop h)
    rw [e8_111014]
    simp only [A.lt, A.ge, A.get, A.next, cond_true, Option.bind_some]
    simp only [ex_fits, ex_eta, cond_true, ← pq_enc, h23, Option.bind_some, retPV_pv, fits_i64, toInt_int]
    cases hv0 : v != 0 with
    | true => rfl
    | false =>
      have v0 : v = 0 := by simpa using hv0
      obtain ⟨a, b, q1, q2⟩ := step hp hb hn hx hxb (hv v0)
      simp only [cond_false, q1, Option.bind_some, retPV_pv, fitsII, cond_true, r_zero, toInt_int]
      cases ha : a == 0 with
      | false => exact ih
      | true =>
        have a0 : a = 0 := by simpa using ha
        obtain ⟨r, r1, r2⟩ := q2 a0
        simp only [cond_true, r1, Option.bind_some, retPV_bld, fits_lstS, toLst_lst, r2, retPV_pv, fits_bool, toBool_bool, cond_false]
        exact ih2
theorem v28 : V 28 [] = some (.pv (.bool true), []) := (V_A pa 28 []).le 40 _ (by kernel_rfl)
theorem law8 {p : Pq} (hp : OkPq p) (hb : bk p.enc ≤ BIG) {ns : List Str} (hn : ns.length ≤ BIG) : V 8 [.pv p.enc, .pv (.lst (ns.map .str))] = some (.pv (.bool true), []) := by
  obtain ⟨b, h36⟩ := v27 hb
  obtain ⟨r, g1, g2, g3⟩ := v29 hb
  have hL := l8 hp hb hn (P := r) (by simp only [BIG] at g2; simp [maxLen]; omega) g3 r 0 rfl
  rw [pq_enc] at h36 g1 ⊢
  rw [e8, h36, v28, g1]
  simp only [Option.bind_some, retPV_pv, fits_bool, toBool_bool, fits_lstS, toLst_lst, cond_true, Bool.not_true, cond_false]
  cases b with
  | false => rfl
  | true => exact hL
end Go.AL.S10.Sc
