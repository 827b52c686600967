/- A let shuts its name in: the law. -/
import Derived.Test.YtofjejdlggmcjaaS3Free
set_option linter.unusedVariables false
set_option linter.unusedSimpArgs false
namespace Go.AL.S3
open Go Go.AL

theorem loopB {e : Ex} {n : Int} (hl : e.args.length ≤ BIG) (hs : ∀ a, a ∈ e.args → okF a) {nm : Str} {w w' : List Str} (hm : ∀ s, s ∈ w' ↔ s ∈ w ∨ s = nm) : ∀ (l : List Ex) (k : Nat) (out : List Str), (e.args.take n.toNat).drop k = l →
    w.length + e.names.length + 1 + sumE l ≤ 2 * BIG → w'.length + e.names.length + 1 + sumE l ≤ 2 * BIG → out.length + sumE l ≤ 2 * BIG →
    ∃ (r : List Str) (j : Nat), L94_111014 (w.map .str) (out.map .str) (e.args.map Ex.enc) n k e.kind e.num e.text (e.names.map .str) e.types (e.arms.map eArm) e.at_ = L94_111014 (w.map .str) (r.map .str) (e.args.map Ex.enc) n j e.kind e.num e.text (e.names.map .str) e.types (e.arms.map eArm) e.at_ ∧
      L94_111014 (w'.map .str) ((cut nm out).map .str) (e.args.map Ex.enc) n k e.kind e.num e.text (e.names.map .str) e.types (e.arms.map eArm) e.at_ = L94_111014 (w'.map .str) ((cut nm r).map .str) (e.args.map Ex.enc) n j e.kind e.num e.text (e.names.map .str) e.types (e.arms.map eArm) e.at_ ∧
      (e.args.take n.toNat).drop j = [] ∧ r.length ≤ out.length + sumE l
  | [], k, out, h, _, _, _ => ⟨out, k, rfl, rfl, h, by simp [sumE]⟩
  | x :: l, k, out, h, b1, b2, b3 => by
    have A' := atK h (len_max (by simp; omega))
    rw [sumE_cons] at b1 b2 b3 ⊢
    have i1 := inn_len e k w
    have i2 := inn_len e k w'
    have hx : x ∈ e.args := List.mem_of_mem_take (mem_drop h)
    obtain ⟨o2, v1, v2, v3⟩ := hs x hx nm (inn e k w) (inn e k w') out (inn_mem hm) (by omega) (by omega) (by omega)
    obtain ⟨r, j, g1, g2, g3, g4⟩ := loopB hl hs hm l (k + 1) o2 A'.drop (by omega) (by omega) (by omega)
    refine ⟨r, j, ?_, ?_, g3, by omega⟩
    · rw [stepB h hl (by omega) v1]; exact g1
    · rw [stepB h hl (by omega) v2]; exact g2

theorem endB {e : Ex} {n : Int} {w out : List Str} {j : Nat} (h : (e.args.take n.toNat).drop j = []) : L94_111014 (w.map .str) (out.map .str) (e.args.map Ex.enc) n j e.kind e.num e.text (e.names.map .str) e.types (e.arms.map eArm) e.at_ =
    bif (e.kind == 13 || e.kind == 18) then L94_111101214 (w.map .str) (out.map .str) (e.arms.map eArm) 0 else some (.bld 1 (out.map .str), []) := by
  have ht : (e.args.map Ex.enc).take n.toNat = (e.args.take n.toNat).map Ex.enc := (List.map_take ..).symm
  rw [e94_111014, ht, endK_map h]
  simp only [cond_false]
  cases e.kind == 13 with
  | true => simp only [cond_true, Bool.true_or]; rw [e94_1111016]; rfl
  | false =>
    simp only [cond_false, Bool.false_or]
    rw [e94_1111016]

theorem has_cut {nm s : Str} (h : s ≠ nm) (l : List Str) : has (cut nm l) s = has l s := by
  unfold has cut
  congr 1
  simp [h]
theorem sumE_take (l : List Ex) (n : Nat) : sumE (l.take n) ≤ sumE l := by
  have h := List.take_append_drop n l
  have : sumE l = sumE (l.take n) + sumE (l.drop n) := by rw [← sumE_append, h]
  omega
theorem v94 {e : Ex} (hb : bk e.enc ≤ BIG) : okF e := by
  revert hb
  refine Ex.ind (Q := fun e => bk e.enc ≤ BIG → okF e) (fun e i1 i2 hb => ?_) e
  have hbx := bk_ex' e
  have hsub : ∀ a, a ∈ e.args → okF a := fun a ha => i1 a ha (by have := bk_args ha; omega)
  have hsub2 : ∀ x, x ∈ e.arms → okF x.2 := fun x hx => i2 x hx (Nat.le_trans (bk_arms hx).1 hb)
  have hl1 := len_sumE e.args
  have hl2 := len_sumA e.arms
  intro nm w w' out hm b1 b2 b3
  have hcl := cut_len nm out
  obtain ⟨n, hn⟩ := v108 e
  have go : ∀ (v o : List Str), V 94 [.pv e.enc, .pv (.lst (v.map .str)), .bld 1 (o.map .str)] =
      (bif decide (n < 0) then some (.bld 1 (o.map .str), [])
      else bif (e.kind == (5 : Int)) then
        ((V 55 [.pv (.lst (v.map .str)), .pv (.str e.text)]).bind retPV).bind fun r1 =>
          (bif (Sh.bool).fits r1 then
            bif (!r1.toBool) then
              ((V 55 [.pv (.lst (o.map .str)), .pv (.str e.text)]).bind retPV).bind fun r2 =>
                (bif (Sh.bool).fits r2 then
                  L94_11041312016 (o.map .str) (!r2.toBool) e.kind e.num e.text (e.names.map .str) e.types (e.args.map Ex.enc) (e.arms.map eArm) e.at_
                else none)
            else L94_11041312016 (o.map .str) false e.kind e.num e.text (e.names.map .str) e.types (e.args.map Ex.enc) (e.arms.map eArm) e.at_
          else none)
      else bif decide ((e.args.length : Int) < n) then
        L94_1104131312014 (v.map .str) (o.map .str) (e.args.map Ex.enc) 0
      else L94_111014 (v.map .str) (o.map .str) (e.args.map Ex.enc) n (0 : Nat) e.kind e.num e.text (e.names.map .str) e.types (e.arms.map eArm) e.at_) := by
    intro v o
    have h0 := e94 e.kind e.num e.text (e.names.map .str) e.types (e.args.map Ex.enc) (e.arms.map eArm) e.at_ (v.map .str) (o.map .str)
    rw [← ex_enc e, hn] at h0
    rw [h0]
    simp only [Option.bind_some, retPV_pv, fits_i64, toInt_int, cond_true, headOk_ex, List.length_map]
    by_cases c1 : n < 0
    · rw [decide_eq_true c1]; rfl
    · rw [decide_eq_false c1]
      by_cases c2 : (e.args.length : Int) < n
      · rw [decide_eq_true c2]; rfl
      · rw [decide_eq_false c2, decide_eq_true (show 0 ≤ n by omega), decide_eq_true (show n ≤ (e.args.length : Int) by omega)]; rfl
  rw [go, go]
  by_cases c1 : n < 0
  · rw [decide_eq_true c1]
    exact ⟨out, rfl, rfl, by omega⟩
  rw [decide_eq_false c1]
  simp only [cond_false]
  cases c5 : e.kind == 5 with
  | true =>
    have s1 : small (out.map PV.str).length 1 16 = true := small_of (by simp only [BIG] at b3; simp; omega)
    have s2 : small ((cut nm out).map PV.str).length 1 16 = true := small_of (by simp only [BIG] at b3; simp; omega)
    have hpos := bkE_pos e
    have h1 := v55 (xs := w) (s := e.text) (by simp only [BIG] at b1; simp [maxLen]; omega)
    have h2 := v55 (xs := w') (s := e.text) (by simp only [BIG] at b2; simp [maxLen]; omega)
    have h3 := v55 (xs := out) (s := e.text) (by simp only [BIG] at b3; simp [maxLen]; omega)
    have h4 := v55 (xs := cut nm out) (s := e.text) (by simp only [BIG] at b3; simp [maxLen]; omega)
    simp only [cond_true, h1, h2, h3, h4, Option.bind_some, retPV_pv, fits_bool, toBool_bool]
    by_cases hn' : e.text = nm
    · have hw' : has w' e.text = true := decide_eq_true ((hm _).2 (.inr hn'))
      rw [hw']
      have hF : ∀ o : List Str, L94_11041312016 (o.map .str) false e.kind e.num e.text (e.names.map .str) e.types (e.args.map Ex.enc) (e.arms.map eArm) e.at_ = some (.bld 1 (o.map .str), []) := fun o => by rw [e94_11041312016]; rfl
      have hT : L94_11041312016 (out.map .str) true e.kind e.num e.text (e.names.map .str) e.types (e.args.map Ex.enc) (e.arms.map eArm) e.at_ = some (.bld 1 ((out ++ [e.text]).map .str), []) := by rw [e94_11041312016, s1]; simp
      simp only [Bool.not_true, cond_false, hF]
      cases has w e.text with
      | true => exact ⟨out, rfl, rfl, by omega⟩
      | false =>
        simp only [Bool.not_false, cond_true]
        cases has out e.text with
        | true => exact ⟨out, hF out, rfl, by omega⟩
        | false =>
          refine ⟨out ++ [e.text], hT, ?_, by simp; omega⟩
          rw [cut_append, hn']
          simp [cut]
    · have hw' : has w' e.text = has w e.text := by
        unfold has
        congr 1
        exact propext ⟨fun h => ((hm _).1 h).resolve_right hn', fun h => (hm _).2 (.inl h)⟩
      rw [hw', has_cut hn']
      cases has w e.text with
      | true =>
        simp only [Bool.not_true, cond_false]
        rw [e94_11041312016, e94_11041312016]
        exact ⟨out, rfl, rfl, by omega⟩
      | false =>
        simp only [Bool.not_false, cond_true]
        rw [e94_11041312016, e94_11041312016]
        cases has out e.text with
        | true => exact ⟨out, rfl, rfl, by omega⟩
        | false =>
          refine ⟨out ++ [e.text], by simp only [Bool.not_false, cond_true, s1]; simp, ?_, by simp; omega⟩
          simp only [Bool.not_false, cond_true, s2]
          rw [cut_append]
          simp [cut, hn']
  | false =>
    simp only [cond_false]
    by_cases c2 : (e.args.length : Int) < n
    · rw [decide_eq_true c2]
      simp only [cond_true]
      obtain ⟨r, g1, g2, g3⟩ := loopA (by omega) hsub hm e.args 0 out rfl (by omega) (by omega) (by omega)
      exact ⟨r, g1, g2, by omega⟩
    · rw [decide_eq_false c2]
      simp only [cond_false]
      have hst := sumE_take e.args n.toNat
      obtain ⟨r, j, g1, g2, g3, g4⟩ := loopB (n := n) (by omega) hsub hm (e.args.take n.toNat) 0 out rfl (by omega) (by omega) (by omega)
      rw [g1, g2, endB g3, endB g3]
      cases (e.kind == 13 || e.kind == 18) with
      | false => exact ⟨r, rfl, rfl, by omega⟩
      | true =>
        obtain ⟨r', k1, k2, k3⟩ := loopC (by omega) (fun x hx => Nat.le_trans (bk_arms hx).2 hb) hsub2 hm e.arms 0 r rfl (by omega) (by omega) (by omega)
        exact ⟨r', k1, k2, by omega⟩

/-! #### slices.DeleteFunc -/
theorem v59 (s c : Str) : V 59 [.pv (.str s), .pv (.ptr [.str c])] = some (.pv (.bool (s == c)), []) := e59 s c
def fst (nm : Str) : List Str → Nat → Option Nat
  | [], _ => none
  | x :: l, k => bif x == nm then some k else fst nm l (k + 1)
theorem l95 {xs : List Str} {nm : Str} (hl : xs.length ≤ maxLen) : ∀ (l : List Str) (k : Nat), xs.drop k = l → L95_1014 (xs.map .str) 59 [.ptr [.str nm]] k = some (.pv (.int .i64 (match fst nm l k with | some j => (j : Int) | none => -1)), [])
  | [], k, h => by rw [e95_1014, endK_map h]; rfl
  | x :: l, k, h => by
    have A := atK_map (f := PV.str) h hl
    have ih := l95 (nm := nm) hl l (k + 1) (atK h hl).drop
    rw [e95_1014]
    simp only [A.lt, A.ge, A.get, A.next, cond_true, Option.bind_some]
    simp only [fits_strS, toStr_str, cond_true, fst, List.cons_append, List.nil_append, List.map_cons, List.map_nil, v59, Option.bind_some, retPV_pv, fits_bool, toBool_bool]
    cases x == nm with
    | true => rfl
    | false => exact ih
theorem fst_spec (nm : Str) : ∀ (l : List Str) (k : Nat), (fst nm l k = none ∧ cut nm l = l) ∨ ∃ j, fst nm l k = some (k + j) ∧ j < l.length ∧ cut nm (l.take j) = l.take j ∧ l[j]? = some nm
  | [], k => .inl ⟨rfl, rfl⟩
  | x :: l, k => by
    simp only [fst]
    cases hb : x == nm with
    | true =>
      have := beq_iff_eq.1 hb
      subst this
      exact .inr ⟨0, rfl, by simp, rfl, rfl⟩
    | false =>
      have hne : ¬ x = nm := by simpa using hb
      simp only [cond_false]
      rcases fst_spec nm l (k + 1) with ⟨h1, h2⟩ | ⟨j, h1, h2, h3, h4⟩
      · left; refine ⟨h1, ?_⟩; unfold cut at h2 ⊢; simp [List.filter_cons, hne, h2]
      · right; refine ⟨j + 1, by rw [h1]; congr 1; omega, by simp; omega, ?_, by simpa using h4⟩
        unfold cut at h3 ⊢; simp [List.take_succ_cons, List.filter_cons, hne, h3]
theorem cut_take_succ {nm : Str} {xs : List Str} {k : Nat} {x : Str} (h : xs[k]? = some x) : cut nm (xs.take (k + 1)) = bif x == nm then cut nm (xs.take k) else cut nm (xs.take k) ++ [x] := by
  rw [List.take_add_one, h]
  simp only [Option.toList_some]
  rw [cut_append]
  cases hb : x == nm with
  | true => simp [cut, hb]
  | false => simp [cut, hb]
theorem l58 {xs : List Str} {nm : Str} (hl : xs.length ≤ maxLen) : ∀ (l : List Str) (k v : Nat) (ys : List Str), xs.drop k = l → ys.length = xs.length → ys.drop k = xs.drop k → v ≤ k → v ≤ xs.length → ys.take v = cut nm (xs.take k) →
    ∃ (zs : List PV) (m : Nat), L58_111014 59 [.ptr [.str nm]] v k (ys.map .str) = some (.box [.int .i64 0, .int .i64 m], [.vec zs]) ∧ m ≤ zs.length ∧ zs.take m = (cut nm xs).map .str
  | [], k, v, ys, h, h1, h2, h3, h3', h4 => by
    have hkl : xs.length ≤ k := by
      have := congrArg List.length h
      simp at this; omega
    have hv : v ≤ ys.length := by omega
    have hz : (clr (ys.map PV.str) v ys.length (.str [])).length = ys.length := by
      have := clr_length (xs := ys.map PV.str) (lo := v) (hi := ys.length) (z := .str []) hv (by simp)
      simpa using this
    refine ⟨clr (ys.map .str) v ys.length (.str []), v, ?_, by omega, ?_⟩
    · rw [e58_111014]
      have e0 : (v : Int).toNat = v := rfl
      simp only [List.length_map, e0, hz]
      rw [decide_eq_false (show ¬ ((k : Int) < (ys.length : Int)) by omega), decide_eq_true (show (0 : Int) ≤ (v : Int) by omega), decide_eq_true (show (v : Int) ≤ (ys.length : Int) by omega)]
      rfl
    · have : (clr (ys.map PV.str) v ys.length (.str [])).take v = (ys.map PV.str).take v := by
        unfold clr
        rw [List.append_assoc, List.take_append_of_le_length (by simp; omega), List.take_take]
        simp
      rw [this, ← List.map_take, h4, List.take_of_length_le hkl]
  | x :: l, k, v, ys, h, h1, h2, h3, h3', h4 => by
    have A' := atK h hl
    have hyd : ys.drop k = x :: l := by rw [h2, h]
    have B := atK_map (f := PV.str) hyd (by rw [h1]; exact hl)
    have hlt := B.lt
    rw [e58_111014]
    simp only [B.lt, B.ge, B.get, B.next, cond_true, Option.bind_some, Bool.and_self]
    have hcl : ((PV.str x).cl 0) = .str x := rfl
    have hone : Nat.blt 0 (PV.str x).cells.length = true := rfl
    simp only [hcl, hone, fits_strS, toStr_str, Bool.and_self, cond_true, List.cons_append, List.nil_append, List.map_cons, List.map_nil, v59, Option.bind_some, retPV_pv, fits_bool, toBool_bool]
    cases hb : x == nm with
    | true =>
      simp only [Bool.not_true, cond_false]
      refine l58 hl l (k + 1) v ys A'.drop h1 ?_ (by omega) (by omega) ?_
      · rw [A'.drop]
        have := congrArg List.tail hyd
        simpa using this
      · rw [cut_take_succ A'.get', hb]; exact h4
    | false =>
      have hvl : v < ys.length := by have := A'.ltn; omega
      have hg : (ys.map PV.str)[(v : Int).toNat]? = some (.str ys[v]) := by simp [List.getElem?_eq_getElem hvl]
      have hw : IntKind.i64.wrap ((v : Int) + 1) = ((v + 1 : Nat) : Int) := by
        have := wrap_nat (k := v + 1) (by omega)
        simpa using this
      have e0 : (v : Int).toNat = v := rfl
      simp only [Bool.not_false, cond_true]
      rw [hg, decide_eq_true (show (0 : Int) ≤ (v : Int) by omega), decide_eq_true (show (v : Int) < ((ys.map PV.str).length : Int) by simp; omega)]
      have hs1 : Nat.blt 0 (PV.str ys[v]).cells.length = true := rfl
      have hs2 : (PV.str ys[v]).setc 0 (.str x) = .str x := rfl
      simp only [Bool.and_self, cond_true, Option.bind_some, hs1, hs2, hw, e0]
      rw [show (ys.map PV.str).set v (.str x) = (ys.set v x).map .str by simp]
      refine l58 hl l (k + 1) (v + 1) (ys.set v x) A'.drop (by simpa using h1) ?_ (by omega) (by omega) ?_
      · rw [List.drop_set_of_lt (by omega), A'.drop]
        have := congrArg List.tail hyd
        simpa using this
      · rw [cut_take_succ A'.get', hb]
        simp only [cond_false]
        rw [← h4, List.take_add_one, List.getElem?_set_self hvl, List.take_set_of_le (Nat.le_refl v)]
        rfl
theorem v58 {xs : List Str} {nm : Str} (hl : xs.length ≤ maxLen) : ∃ (zs : List PV) (m : Nat), V 58 [.vec 1 (xs.map .str), .pv (.fn 59 [.ptr [.str nm]])] = some (.box [.int .i64 0, .int .i64 m], [.vec zs]) ∧ m ≤ zs.length ∧ zs.take m = (cut nm xs).map .str := by
  have hall : ((xs.map PV.str).all fun x => Nat.beq x.cells.length 1) = true := by
    rw [List.all_map]; exact List.all_eq_true.2 fun x _ => rfl
  have h95 : V 95 [.pv (.lst (xs.map .str)), .pv (.fn 59 [.ptr [.str nm]])] = _ := (e95 _ _ _).trans (l95 hl xs 0 rfl)
  rw [e58, hall, h95]
  simp only [Bool.and_self, cond_true, Option.bind_some, retPV_pv, fits_i64, toInt_int, List.length_map]
  rcases fst_spec nm xs 0 with ⟨h1, h2⟩ | ⟨j, h1, h2, h3, h4⟩
  · rw [h1]
    exact ⟨xs.map .str, xs.length, rfl, by rw [List.length_map]; exact Nat.le_refl _, by rw [h2]; exact List.take_of_length_le (by rw [List.length_map]; exact Nat.le_refl _)⟩
  · rw [h1]
    simp only [Nat.zero_add]
    rw [show ((j : Int) == -1) = false from beq_eq_false_iff_ne.2 (by omega)]
    have hw : IntKind.i64.wrap ((j : Int) + 1) = ((j + 1 : Nat) : Int) := by
      have := wrap_nat (k := j + 1) (by omega)
      simpa using this
    simp only [cond_false, hw]
    exact l58 hl (xs.drop (j + 1)) (j + 1) j xs rfl rfl rfl (by omega) (by omega) (by rw [cut_take_succ h4, h3]; simp)

/-! #### slices.Equal -/
theorem l60 {xs : List Str} (hl : xs.length ≤ maxLen) : ∀ (l : List Str) (k : Nat), xs.drop k = l → L60_11014 (xs.map .str) (xs.map .str) k = some (.pv (.bool true), [])
  | [], k, h => by rw [e60_11014, endK_map h]; rfl
  | x :: l, k, h => by
    have A := atK_map (f := PV.str) h hl
    have ih := l60 hl l (k + 1) (atK h hl).drop
    rw [e60_11014 (xs.map .str) (xs.map .str) k]
    simp only [A.lt, A.ge, A.get, A.next, cond_true, Option.bind_some]
    simp only [fits_strS, toStr_str, cond_true, beq_self_eq_true, Bool.not_true, cond_false]
    exact ih
theorem v60 {xs : List Str} (hl : xs.length ≤ maxLen) : V 60 [.pv (.lst (xs.map .str)), .pv (.lst (xs.map .str))] = some (.pv (.bool true), []) := by
  rw [e60]
  have : (((xs.map PV.str).length : Int) != ((xs.map PV.str).length : Int)) = false := by simp
  rw [this]
  exact l60 hl xs 0 rfl

/-! #### The law -/
def unitE : Ex := .mk 1 0 [] [] [] [] [] 0
def letE (nm : Str) (e : Ex) : Ex := .mk 6 0 nm [] [] [unitE, e] [] 0
theorem let_enc (nm : Str) (e : Ex) : (letE nm e).enc = .agg [.int .i64 6, .int .i64 0, .str nm, .lst [], .lst [], .lst [unitE.enc, e.enc], .lst [], .int .i64 0] := by rw [ex_enc]; rfl
theorem unit_enc : unitE.enc = .agg [.int .i64 1, .int .i64 0, .str [], .lst [], .lst [], .lst [], .lst [], .int .i64 0] := by rw [ex_enc]; rfl
theorem need_let (nm : Str) (e : Ex) : V 108 [.pv (letE nm e).enc] = some (.pv (.int .i64 2), []) := by
  rw [let_enc, e108]
  have t : ∀ m : Int, m ≠ 6 → ((6 : Int) == m) = false := fun m h => beq_eq_false_iff_ne.2 (Ne.symm h)
  simp only [t 1 (by omega), t 2 (by omega), t 3 (by omega), t 4 (by omega), t 5 (by omega), t 16 (by omega), cond_false]
  rw [e108_101416]
  simp only [cond_false, beq_self_eq_true, cond_true]
  rw [e108_10141316]
  rfl
theorem v57 (e : Ex) {r : List Str} (h : V 94 [.pv e.enc, .pv (.lst []), .bld 1 []] = some (.bld 1 (r.map .str), [])) : V 57 [.pv e.enc] = some (.bld 1 (r.map .str), []) := by
  have h0 := e57 e.kind e.num e.text (e.names.map .str) e.types (e.args.map Ex.enc) (e.arms.map eArm) e.at_
  rw [← ex_enc e, h] at h0
  rw [h0]
  simp only [Option.bind_some, retB_bld]
theorem law16 {e : Ex} {nm : Str} (hb : bk e.enc + nm.length ≤ BIG) : V 16 [.pv e.enc, .pv (.str nm)] = some (.pv (.bool true), []) := by
  obtain ⟨n, h43, _⟩ := v43 (e := e) (by omega)
  obtain ⟨r, g1, g2, g3⟩ := v94 (e := e) (by omega) nm [] [nm] [] (by simp) (by simp only [BIG] at hb; simp [BIG]; omega) (by simp only [BIG] at hb; simp [BIG]; omega) (by simp only [BIG] at hb; simp [BIG]; omega)
  simp only [List.map_nil, List.length_nil, Nat.zero_add, List.map_cons] at g1 g2 g3
  have hr : r.length ≤ BIG := by omega
  have hf := v57 e g1
  -- the let
  have hu : V 94 [.pv unitE.enc, .pv (.lst []), .bld 1 []] = some (.bld 1 [], []) := by
    have h0 := e94 1 0 [] [] [] [] [] 0 [] []
    rw [← unit_enc] at h0
    have hn : V 108 [.pv unitE.enc] = some (.pv (.int .i64 0), []) := by
      rw [unit_enc, e108]
      simp only [beq_self_eq_true, cond_true]
      rw [e108_101416]
      rfl
    rw [hn] at h0
    rw [h0]
    simp only [Option.bind_some, retPV_pv, fits_i64, toInt_int, cond_true]
    have := endB (e := unitE) (n := 0) (w := []) (out := []) (j := 0) rfl
    exact this
  have hL : V 94 [.pv (letE nm e).enc, .pv (.lst []), .bld 1 []] = some (.bld 1 ((cut nm r).map .str), []) := by
    have h0 := e94 6 0 nm [] [] [unitE.enc, e.enc] [] 0 [] []
    rw [← let_enc, need_let] at h0
    rw [h0]
    simp only [Option.bind_some, retPV_pv, fits_i64, toInt_int, cond_true]
    have s0 := stepB (e := letE nm e) (n := 2) (w := []) (out := []) (o2 := []) (k := 0) (x := unitE) (l := [e]) rfl (by simp [letE, Ex.args, BIG]) (by simp [letE, Ex.names, BIG]) (by
      have : inn (letE nm e) 0 [] = [] := rfl
      rw [this]; exact hu)
    have s1 := stepB (e := letE nm e) (n := 2) (w := []) (out := []) (o2 := cut nm r) (k := 1) (x := e) (l := []) rfl (by simp [letE, Ex.args, BIG]) (by simp [letE, Ex.names, BIG]) (by
      have : inn (letE nm e) 1 [] = [nm] := rfl
      rw [this]
      exact g2)
    have s2 := endB (e := letE nm e) (n := 2) (w := []) (out := cut nm r) (j := 2) rfl
    exact s0.trans (s1.trans s2)
  have hfl := v57 (letE nm e) hL
  rw [let_enc, unit_enc] at hfl
  obtain ⟨zs, m, d1, d2, d3⟩ := v58 (xs := r) (nm := nm) (len_max hr)
  have hcl := v40 (l := r) (by omega)
  have hcut := cut_len nm r
  have heq := v60 (xs := cut nm r) (len_max (by omega))
  have he := ex_enc e
  rw [he] at h43 hf hfl ⊢
  rw [e16, h43, v47, hfl, hf]
  simp only [Option.bind_some, retPV_pv, retPV_bld, fits_i64, fits_bool, fits_lstS, toInt_int, toBool_bool, toLst_lst, cond_true, Bool.not_true, cond_false, hcl, retV_vec, d1]
  cases decide (n > 400) with
  | true => rfl
  | false =>
    have hrf : refFits [] [0] [.vec zs] = true := rfl
    have hw : retW (.box [.int .i64 0, .int .i64 m], [.vec zs]) = some (0, m) := rfl
    have hv : Out.v (.box [.int .i64 0, .int .i64 m], [.vec zs]) 0 = zs := rfl
    simp only [cond_false, hrf, cond_true, hw, Option.bind_some, hv]
    rw [show Nat.ble 0 m = true from rfl, Nat.ble_eq_true_of_le d2]
    simp only [Bool.and_self, cond_true, List.drop_zero, d3, heq, Option.bind_some, retPV_pv, fits_bool, toBool_bool]
end Go.AL.S3
