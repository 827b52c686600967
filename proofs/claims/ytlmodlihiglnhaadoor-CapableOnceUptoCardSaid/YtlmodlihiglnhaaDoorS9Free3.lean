/- Free names, of the document; uses. -/
import Derived.Test.YtlmodlihiglnhaaDoorS9Free2
set_option linter.unusedVariables false
set_option linter.unusedSimpArgs false
set_option maxRecDepth 20000
namespace Go.AL.S9.Fr
open Go Go.AL Go.AL.S9

def eSc (p : Sc) : PV := .agg [.int .i64 p.1.kind, .int .i64 p.1.num, .str p.1.text, .lst (p.1.names.map .str), .lst p.1.types, .lst (p.1.args.map Ex.enc), .lst (p.1.arms.map eArm), .int .i64 p.1.at_, .lst (p.2.map .str)]
theorem sc_fits (p : Sc) : (Sh.agg [Sh.int .i64, Sh.int .i64, Sh.str, Sh.lst, Sh.lst, Sh.lst, Sh.lst, Sh.int .i64, Sh.lst]).fits (eSc p) = true := nrfl rfl
theorem sc_ex (p : Sc) : PV.agg [.int .i64 ((eSc p).c 0).toInt, .int .i64 ((eSc p).c 1).toInt, .str ((eSc p).c 2).toStr, .lst ((eSc p).c 3).toLst, .lst ((eSc p).c 4).toLst, .lst ((eSc p).c 5).toLst, .lst ((eSc p).c 6).toLst, .int .i64 ((eSc p).c 7).toInt] = p.1.enc := by rw [ex_enc]; rfl
theorem sc_8 (p : Sc) : ((eSc p).c 8).toLst = p.2.map .str := nrfl rfl
theorem sc_mk (x : Ex) (l : List Str) : PV.agg [.int .i64 (x.enc.c 0).toInt, .int .i64 (x.enc.c 1).toInt, .str (x.enc.c 2).toStr, .lst (x.enc.c 3).toLst, .lst (x.enc.c 4).toLst, .lst (x.enc.c 5).toLst, .lst (x.enc.c 6).toLst, .int .i64 (x.enc.c 7).toInt, .lst (l.map .str)] = eSc (x, l) := by
  rw [ex_0, ex_1, ex_2, ex_3, ex_4, ex_5, ex_6, ex_7]; rfl
theorem sc_arm (x : Pa × Ex) (l : List Str) : PV.agg [.int .i64 ((eArm x).c 4).toInt, .int .i64 ((eArm x).c 5).toInt, .str ((eArm x).c 6).toStr, .lst ((eArm x).c 7).toLst, .lst ((eArm x).c 8).toLst, .lst ((eArm x).c 9).toLst, .lst ((eArm x).c 10).toLst, .int .i64 ((eArm x).c 11).toInt, .lst (l.map .str)] = eSc (x.2, l) := by
  rw [arm_enc]; rfl
theorem headOk_sc (l : List Sc) : headOk 9 (l.map eSc) = true := by cases l <;> rfl

/-! #### What counts -/
theorem c64s {e x : Ex} {acc : List Sc} {k : Nat} {v : Int} {ls : List Str} (hx : e.args[k]? = some x) (ha : acc.length ≤ 2 * BIG) (hk : k ≤ 2 * BIG) :
    L64_11110145110411116 (acc.map eSc) (k : Int) (ls.map .str) v e.kind e.num e.text (e.names.map .str) e.types (e.args.map Ex.enc) (e.arms.map eArm) e.at_ = L64_1111014 ((acc ++ [(x, ls)]).map eSc) v (k + 1 : Nat) e.kind e.num e.text (e.names.map .str) e.types (e.args.map Ex.enc) (e.arms.map eArm) e.at_ := by
  have hg : (e.args.map Ex.enc)[((k : Nat) : Int).toNat]? = some x.enc := by rw [Int.toNat_natCast, List.getElem?_map, hx]; rfl
  have hs : small (acc.map eSc).length 1 160 = true := small_of (by simp only [BIG] at ha; simp; omega)
  have hw : IntKind.i64.wrap ((k : Int) + 1) = ((k + 1 : Nat) : Int) := by simp only [BIG] at hk; rw [wrap_i64 (by omega) (by omega)]; omega
  rw [e64_11110145110411116, decide_eq_true (show (0 : Int) ≤ (k : Int) by omega), hg]
  simp only [cond_true, Option.bind_some, ex_fits, hs, hw, sc_mk]
  rw [List.map_append]; rfl
theorem c64n {e x : Ex} {acc : List Sc} {k : Nat} {v : Int} (hx : e.args[k]? = some x) (ha : acc.length ≤ 2 * BIG) (hk : k ≤ 2 * BIG) :
    L64_11110145110411116v1 (acc.map eSc) (k : Int) v e.kind e.num e.text (e.names.map .str) e.types (e.args.map Ex.enc) (e.arms.map eArm) e.at_ = L64_1111014 ((acc ++ [(x, [])]).map eSc) v (k + 1 : Nat) e.kind e.num e.text (e.names.map .str) e.types (e.args.map Ex.enc) (e.arms.map eArm) e.at_ := by
  have hg : (e.args.map Ex.enc)[((k : Nat) : Int).toNat]? = some x.enc := by rw [Int.toNat_natCast, List.getElem?_map, hx]; rfl
  have hs : small (acc.map eSc).length 1 160 = true := small_of (by simp only [BIG] at ha; simp; omega)
  have hw : IntKind.i64.wrap ((k : Int) + 1) = ((k + 1 : Nat) : Int) := by simp only [BIG] at hk; rw [wrap_i64 (by omega) (by omega)]; omega
  have hm := sc_mk x []
  rw [List.map_nil] at hm
  rw [e64_11110145110411116v1, decide_eq_true (show (0 : Int) ≤ (k : Int) by omega), hg]
  simp only [cond_true, Option.bind_some, ex_fits, hs, hw, hm]
  rw [List.map_append]; rfl
theorem l64 {e : Ex} (hl : e.args.length ≤ BIG) : ∀ (l : List Ex) (k : Nat) (acc : List Sc), e.args.drop k = l → k ≤ e.args.length → acc.length ≤ k →
    L64_1111014 (acc.map eSc) ((e.args.length : Nat) : Int) k e.kind e.num e.text (e.names.map .str) e.types (e.args.map Ex.enc) (e.arms.map eArm) e.at_ = L64_1111014 ((acc ++ scs e l k).map eSc) ((e.args.length : Nat) : Int) (e.args.length : Nat) e.kind e.num e.text (e.names.map .str) e.types (e.args.map Ex.enc) (e.arms.map eArm) e.at_
  | [], k, acc, h, hk, _ => by
    have : k = e.args.length := by have := congrArg List.length h; simp at this; omega
    subst this
    simp [scs]
  | x :: l, k, acc, h, hk, ha => by
    have A' := atK h (len_max hl)
    have hx : e.args[k]? = some x := by simpa using A'.get'
    have hlt := A'.ltn
    have ih := l64 hl l (k + 1) (acc ++ [(x, sc e k)]) A'.drop A'.ltn (by simp; omega)
    have hmx : (bif decide ((0 : Int) > ((e.args.length : Nat) : Int)) then (0 : Int) else ((e.args.length : Nat) : Int)) = ((e.args.length : Nat) : Int) := by rw [decide_eq_false (by omega)]; rfl
    have fin : L64_1111014 ((acc ++ [(x, sc e k)]).map eSc) ((e.args.length : Nat) : Int) (k + 1 : Nat) e.kind e.num e.text (e.names.map .str) e.types (e.args.map Ex.enc) (e.arms.map eArm) e.at_ = L64_1111014 ((acc ++ scs e (x :: l) k).map eSc) ((e.args.length : Nat) : Int) (e.args.length : Nat) e.kind e.num e.text (e.names.map .str) e.types (e.args.map Ex.enc) (e.arms.map eArm) e.at_ := by
      rw [ih, List.append_assoc]; rfl
    rw [← fin, e64_1111014, hmx, decide_eq_true (show ((k : Nat) : Int) < ((e.args.length : Nat) : Int) by omega)]
    simp only [cond_true]
    have named : ∀ ls : List Str, sc e k = ls → L64_11110145110411116 (acc.map eSc) (k : Int) (ls.map .str) ((e.args.length : Nat) : Int) e.kind e.num e.text (e.names.map .str) e.types (e.args.map Ex.enc) (e.arms.map eArm) e.at_ = L64_1111014 ((acc ++ [(x, sc e k)]).map eSc) ((e.args.length : Nat) : Int) (k + 1 : Nat) e.kind e.num e.text (e.names.map .str) e.types (e.args.map Ex.enc) (e.arms.map eArm) e.at_ := fun ls h => by
      rw [h]; exact c64s hx (by omega) (by omega)
    have plain : sc e k = sc e k → e.kind ≠ 10 → sc e k = [] → L64_1111014511041116 (acc.map eSc) (k : Int) ((e.args.length : Nat) : Int) e.kind e.num e.text (e.names.map .str) e.types (e.args.map Ex.enc) (e.arms.map eArm) e.at_ = L64_1111014 ((acc ++ [(x, sc e k)]).map eSc) ((e.args.length : Nat) : Int) (k + 1 : Nat) e.kind e.num e.text (e.names.map .str) e.types (e.args.map Ex.enc) (e.arms.map eArm) e.at_ := fun _ h10 hs => by
      rw [e64_1111014511041116, show (e.kind == 10) = false from beq_eq_false_iff_ne.2 h10, hs]
      exact c64n hx (by omega) (by omega)
    cases h6 : e.kind == 6 with
    | true =>
      have k6 : e.kind = 6 := by simpa using h6
      simp only [cond_true]
      by_cases h1 : k = 1
      · subst h1
        rw [show ((((1 : Nat) : Int)) == 1) = true from rfl]
        simp only [cond_true]
        rw [e64_1111014511041116v1, show (e.kind == 10) = false by rw [k6]; rfl]
        exact named [e.text] (by unfold sc; rw [if_neg (by omega), if_pos ⟨k6, rfl⟩])
      · rw [show ((k : Int) == 1) = false from beq_eq_false_iff_ne.2 (by omega)]
        exact plain rfl (by omega) (by unfold sc; rw [if_neg (by omega), if_neg (by omega)])
    | false =>
      have k6 : e.kind ≠ 6 := by simpa using h6
      simp only [cond_false]
      cases h10 : e.kind == 10 with
      | true =>
        have k10 : e.kind = 10 := by simpa using h10
        rw [e64_1111014511041116, h10]
        exact named e.names (by unfold sc; rw [if_pos k10])
      | false =>
        have k10 : e.kind ≠ 10 := by simpa using h10
        exact plain rfl k10 (by unfold sc; rw [if_neg k10, if_neg (by omega)])
theorem l64a {arms : List (Pa × Ex)} (hl : arms.length ≤ BIG) (hb : ∀ x, x ∈ arms → bk x.1.enc ≤ BIG) : ∀ (l : List (Pa × Ex)) (k : Nat) (acc : List Sc), arms.drop k = l → acc.length + l.length ≤ 2 * BIG → L64_1111101214 (acc.map eSc) (arms.map eArm) k = some (.bld 9 ((acc ++ l.map armS).map eSc), [])
  | [], k, acc, h, _ => by rw [e64_1111101214, endK_map h]; simp
  | x :: l, k, acc, h, hb2 => by
    have A := atK_map (f := eArm) h (len_max hl)
    have A' := atK h (len_max hl)
    have h1 := v97 (hb x (mem_drop h))
    unfold NL at h1
    have hs : small (acc.map eSc).length 1 160 = true := small_of (by simp only [BIG] at hb2; simp; omega)
    have ih := l64a hl hb l (k + 1) (acc ++ [armS x]) A'.drop (by simp at hb2 ⊢; omega)
    rw [e64_1111101214]
    simp only [A.lt, A.ge, A.get, A.next, cond_true, Option.bind_some]
    simp only [arm_fits, arm_pa, cond_true, h1, Option.bind_some, fits_lstS, toLst_lst, hs, sc_arm]
    rw [show acc.map eSc ++ [eSc (x.2, bn x.1)] = (acc ++ [armS x]).map eSc by rw [List.map_append]; rfl, ih, List.append_assoc]
    rfl
theorem scs_len (e : Ex) : ∀ (l : List Ex) (i : Nat), (scs e l i).length = l.length
  | [], _ => rfl
  | a :: l, i => by simp [scs, scs_len e l (i + 1)]
theorem v64 {e : Ex} (hr : Rt e) (hb : bk e.enc ≤ BIG) : (V 64 [.pv e.enc]).bind retPV = some (.lst ((cnt e).map eSc)) := by
  have hx := bk_ex' e
  have hE := len_sumE e.args
  have hA := len_sumA e.arms
  have pas : ∀ x, x ∈ e.arms → bk x.1.enc ≤ BIG := fun x hx' => by have := bk_arms' hx'; have := bk_arm x; have := bkE_pos x.2; omega
  have ev := e64 e.kind e.num e.text (e.names.map .str) e.types (e.args.map Ex.enc) (e.arms.map eArm) e.at_
  rw [← ex_enc, ex_enc e, v96, ← ex_enc e, List.length_map, rt_nd hr] at ev
  simp only [Option.bind_some, retPV_pv, fits_i64, cond_true, toInt_int] at ev
  rw [decide_eq_false (show ¬ ((e.args.length : Nat) : Int) > ((e.args.length : Nat) : Int) by omega)] at ev
  simp only [cond_false] at ev
  have g := l64 (e := e) (by omega) e.args 0 [] rfl (by omega) (by simp)
  have g' : L64_1111014 [] ((e.args.length : Nat) : Int) 0 e.kind e.num e.text (e.names.map .str) e.types (e.args.map Ex.enc) (e.arms.map eArm) e.at_ = _ := g
  rw [ev, g', List.nil_append]
  have hmx : (bif decide ((0 : Int) > ((e.args.length : Nat) : Int)) then (0 : Int) else ((e.args.length : Nat) : Int)) = ((e.args.length : Nat) : Int) := by rw [decide_eq_false (by omega)]; rfl
  rw [e64_1111014, hmx, decide_eq_false (show ¬ ((e.args.length : Nat) : Int) < ((e.args.length : Nat) : Int) by omega)]
  simp only [cond_false]
  have last : ∀ b, (b = false → e.arms = []) → (L64_11111016 ((scs e e.args 0).map eSc) b e.kind e.num e.text (e.names.map .str) e.types (e.args.map Ex.enc) (e.arms.map eArm) e.at_).bind retPV = some (.lst ((cnt e).map eSc)) := fun b h => by
    rw [e64_11111016]
    cases b with
    | true =>
      have := l64a (arms := e.arms) (by omega) pas e.arms 0 (scs e e.args 0) rfl (by rw [scs_len]; omega)
      have h' : L64_1111101214 ((scs e e.args 0).map eSc) (e.arms.map eArm) 0 = _ := this
      simp only [cond_true]
      rw [h']; rfl
    | false =>
      unfold cnt
      rw [h rfl]
      simp only [cond_false, List.map_nil, List.append_nil]
      rfl
  cases h13 : e.kind == 13 with
  | true => exact last true (fun h => by cases h)
  | false =>
    refine last _ fun h => ?_
    rcases rt_arms hr with h' | h' | h'
    · exact h'
    · rw [h'] at h13; cases h13
    · rw [h'] at h; cases h

/-! #### Free names, of the document -/
def sumC (l : List Sc) : Nat := (l.map fun p => bk p.1.enc).sum
theorem sumC_cons (a : Sc) (b : List Sc) : sumC (a :: b) = bk a.1.enc + sumC b := by simp [sumC]
theorem sumC_scs (e : Ex) : ∀ (l : List Ex) (i : Nat), sumC (scs e l i) = sumE l
  | [], _ => rfl
  | a :: l, i => by rw [scs, sumC_cons, sumC_scs e l (i + 1), sumE_cons]
theorem sumC_arm : ∀ (l : List (Pa × Ex)), sumC (l.map armS) ≤ sumA l
  | [] => by simp [sumC, sumA]
  | x :: l => by
    have h1 := bk_arm x
    have h2 := bk_pos x.1
    have := sumC_arm l
    rw [List.map_cons, sumC_cons, sumA_cons]
    have : bk (armS x).1.enc = bk x.2.enc := rfl
    omega
theorem sumC_cnt (e : Ex) : sumC (cnt e) + 2 ≤ bk e.enc := by
  have h1 := bk_ex' e
  have h2 := sumC_arm e.arms
  have h3 : sumC (cnt e) = sumE e.args + sumC (e.arms.map armS) := by
    unfold cnt sumC
    rw [List.map_append, List.sum_append]
    have := sumC_scs e e.args 0
    unfold sumC at this
    rw [this]
  omega
theorem sc_sum {l : List Sc} {p : Sc} (h : p ∈ l) : bk p.1.enc ≤ sumC l := le_sum (List.mem_map.2 ⟨p, h, rfl⟩)
theorem cnt_len (e : Ex) : (cnt e).length ≤ bk e.enc := by
  have h1 := bk_ex' e
  have hE := len_sumE e.args
  have hA := len_sumA e.arms
  unfold cnt
  rw [List.length_append, scs_len, List.length_map]
  omega
theorem scs_mem {e : Ex} {p : Sc} : ∀ {l : List Ex} {i : Nat}, p ∈ scs e l i → p.1 ∈ l
  | a :: l, i, h => by
    rw [scs] at h
    rcases List.mem_cons.1 h with rfl | h
    · simp
    · exact List.mem_cons_of_mem _ (scs_mem h)
theorem cnt_rt {e : Ex} (hr : Rt e) {p : Sc} (h : p ∈ cnt e) : Rt p.1 := by
  unfold cnt at h
  rcases List.mem_append.1 h with h | h
  · exact rt_sub hr _ (scs_mem h)
  · obtain ⟨x, hx, rfl⟩ := List.mem_map.1 h
    exact rt_exs hr x hx
def okR (e : Ex) : Prop := ∃ r : List Str, (V 26 [.pv e.enc]).bind retPV = some (.lst (r.map .str)) ∧ r.length ≤ bk e.enc ∧ ∀ s, s ∈ r ↔ Fv e s
theorem l26i {v : List PV} {i : Nat} {p : Sc} {R : List Str} (hR : R.length ≤ BIG) (hp : p.2.length ≤ maxLen) (hi : i ≤ 2 * BIG) : ∀ (l : List Str) (k : Nat) (out : List Str), R.drop k = l → out.length + l.length ≤ 2 * BIG →
    ∃ o2 : List Str, L26_11101451104114 (out.map .str) v i (R.map .str) k p.1.kind p.1.num p.1.text (p.1.names.map .str) p.1.types (p.1.args.map Ex.enc) (p.1.arms.map eArm) p.1.at_ (p.2.map .str) = L26_111014 (o2.map .str) v (i + 1 : Nat) ∧ o2.length ≤ out.length + l.length ∧ ∀ s, s ∈ o2 ↔ s ∈ out ∨ (s ∈ l ∧ s ∉ p.2)
  | [], k, out, h, _ => by
    have hw : IntKind.i64.wrap ((i : Int) + 1) = ((i + 1 : Nat) : Int) := by simp only [BIG] at hi; rw [wrap_i64 (by omega) (by omega)]; omega
    refine ⟨out, ?_, by simp, fun s => by simp⟩
    rw [e26_11101451104114, endK_map h]
    simp only [cond_false, hw]
  | x :: l, k, out, h, hb => by
    have A := atK_map (f := PV.str) h (len_max hR)
    have A' := atK h (len_max hR)
    have hol : out.length ≤ maxLen := Nat.le_trans (show out.length ≤ 2 * BIG by omega) (by decide)
    have step : ∀ b, L26_1110145110411451104116 (out.map .str) x v i (R.map .str) k b p.1.kind p.1.num p.1.text (p.1.names.map .str) p.1.types (p.1.args.map Ex.enc) (p.1.arms.map eArm) p.1.at_ (p.2.map .str) = L26_11101451104114 ((bif b then out ++ [x] else out).map .str) v i (R.map .str) (k + 1 : Nat) p.1.kind p.1.num p.1.text (p.1.names.map .str) p.1.types (p.1.args.map Ex.enc) (p.1.arms.map eArm) p.1.at_ (p.2.map .str) := fun b => by
      rw [e26_1110145110411451104116]
      cases b with
      | false => simp only [cond_false, A.next]
      | true =>
        have hs : small (out.map PV.str).length 1 16 = true := small_of (by simp only [BIG] at hb; simp at hb ⊢; omega)
        simp only [cond_true, hs, A.next]
        rw [List.map_append]; rfl
    have go : ∀ out' : List Str, out'.length ≤ out.length + 1 → (∀ s, s ∈ out' ↔ s ∈ out ∨ (s = x ∧ s ∉ p.2)) → L26_11101451104114 (out.map .str) v i (R.map .str) k p.1.kind p.1.num p.1.text (p.1.names.map .str) p.1.types (p.1.args.map Ex.enc) (p.1.arms.map eArm) p.1.at_ (p.2.map .str) = L26_11101451104114 (out'.map .str) v i (R.map .str) (k + 1 : Nat) p.1.kind p.1.num p.1.text (p.1.names.map .str) p.1.types (p.1.args.map Ex.enc) (p.1.arms.map eArm) p.1.at_ (p.2.map .str) →
        ∃ o2 : List Str, L26_11101451104114 (out.map .str) v i (R.map .str) k p.1.kind p.1.num p.1.text (p.1.names.map .str) p.1.types (p.1.args.map Ex.enc) (p.1.arms.map eArm) p.1.at_ (p.2.map .str) = L26_111014 (o2.map .str) v (i + 1 : Nat) ∧ o2.length ≤ out.length + (x :: l).length ∧ ∀ s, s ∈ o2 ↔ s ∈ out ∨ (s ∈ x :: l ∧ s ∉ p.2) := fun out' h1 h2 h3 => by
      obtain ⟨o2, g1, g2, g3⟩ := l26i hR hp hi l (k + 1) out' A'.drop (by simp at hb; omega)
      refine ⟨o2, h3.trans g1, by simp; omega, fun s => ?_⟩
      rw [g3 s, h2 s, List.mem_cons]
      constructor
      · rintro ((h | ⟨h, h'⟩) | ⟨h, h'⟩)
        · exact .inl h
        · exact .inr ⟨.inl h, h'⟩
        · exact .inr ⟨.inr h, h'⟩
      · rintro (h | ⟨h | h, h'⟩)
        · exact .inl (.inl h)
        · exact .inl (.inr ⟨h, h'⟩)
        · exact .inr ⟨h, h'⟩
    have hp25 := v25 (xs := p.2) (s := x) hp
    have ho25 := v25 (xs := out) (s := x) hol
    have ev := e26_11101451104114 (out.map .str) v i (R.map .str) k p.1.kind p.1.num p.1.text (p.1.names.map .str) p.1.types (p.1.args.map Ex.enc) (p.1.arms.map eArm) p.1.at_ (p.2.map .str)
    simp only [A.lt, A.ge, A.get, A.next, cond_true, Option.bind_some, str_fits, str_str, hp25, ho25, retPV_pv, fits_bool, toBool_bool] at ev
    by_cases hxp : x ∈ p.2
    · have : has p.2 x = true := decide_eq_true hxp
      rw [this] at ev
      simp only [Bool.not_true, cond_false] at ev
      rw [step] at ev
      refine go out (by omega) (fun s => ?_) ev
      constructor
      · exact .inl
      · rintro (h9 | ⟨h8, h9⟩)
        · exact h9
        · rw [h8] at h9; exact absurd hxp h9
    · have : has p.2 x = false := decide_eq_false hxp
      rw [this] at ev
      simp only [Bool.not_false, cond_true] at ev
      rw [step] at ev
      by_cases hxo : x ∈ out
      · have : has out x = true := decide_eq_true hxo
        rw [this] at ev
        refine go out (by omega) (fun s => ?_) ev
        constructor
        · exact .inl
        · rintro (h | ⟨rfl, _⟩)
          · exact h
          · exact hxo
      · have : has out x = false := decide_eq_false hxo
        rw [this] at ev
        refine go (out ++ [x]) (by simp) (fun s => ?_) ev
        rw [List.mem_append, List.mem_singleton]
        constructor
        · rintro (h | rfl)
          · exact .inl h
          · exact .inr ⟨rfl, hxp⟩
        · rintro (h | ⟨h, _⟩)
          · exact .inl h
          · exact .inr h
theorem l26 {C : List Sc} (hC : C.length ≤ BIG) (hs : ∀ p, p ∈ C → okR p.1 ∧ p.2.length ≤ maxLen ∧ bk p.1.enc ≤ BIG) : ∀ (l : List Sc) (k : Nat) (out : List Str), C.drop k = l → out.length + sumC l ≤ 2 * BIG →
    ∃ r : List Str, L26_111014 (out.map .str) (C.map eSc) k = some (.bld 1 (r.map .str), []) ∧ r.length ≤ out.length + sumC l ∧ ∀ s, s ∈ r ↔ s ∈ out ∨ ∃ p, p ∈ l ∧ Fv p.1 s ∧ s ∉ p.2
  | [], k, out, h, _ => ⟨out, by rw [e26_111014, endK_map h]; rfl, by simp [sumC], fun s => by simp⟩
  | x :: l, k, out, h, hb => by
    have A := atK_map (f := eSc) h (len_max hC)
    have A' := atK h (len_max hC)
    obtain ⟨⟨R, r1, r2, r3⟩, hp, hpb⟩ := hs x (mem_drop h)
    rw [sumC_cons] at hb ⊢
    have hlt := A'.ltn
    obtain ⟨o2, g1, g2, g3⟩ := l26i (v := C.map eSc) (i := k) (p := x) (R := R) (by omega) hp (by omega) R 0 out rfl (by omega)
    obtain ⟨r, q1, q2, q3⟩ := l26 hC hs l (k + 1) o2 A'.drop (by omega)
    have ev := e26_111014 (out.map .str) (C.map eSc) k
    simp only [A.lt, A.ge, A.get, cond_true, Option.bind_some] at ev
    simp only [sc_fits, sc_ex, sc_8, cond_true, r1, Option.bind_some, fits_lstS, toLst_lst] at ev
    refine ⟨r, ?_, by omega, fun s => ?_⟩
    · rw [ev]
      exact g1.trans q1
    · rw [q3 s, g3 s, r3 s]
      constructor
      · rintro ((h | ⟨h, h'⟩) | ⟨p, h1, h2⟩)
        · exact .inl h
        · exact .inr ⟨x, by simp, h, h'⟩
        · exact .inr ⟨p, List.mem_cons_of_mem _ h1, h2⟩
      · rintro (h | ⟨p, h1, h2, h3⟩)
        · exact .inl (.inl h)
        · rcases List.mem_cons.1 h1 with rfl | h1
          · exact .inl (.inr ⟨h2, h3⟩)
          · exact .inr ⟨p, h1, h2, h3⟩
theorem sc_small {e : Ex} (he : e.names.length ≤ BIG) {p : Sc} : ∀ {l : List Ex} {i : Nat}, p ∈ scs e l i → p.2.length ≤ BIG
  | a :: l, i, h => by
    rw [scs] at h
    rcases List.mem_cons.1 h with rfl | h
    · show (sc e i).length ≤ BIG
      unfold sc
      split
      · exact he
      · split
        · simp [BIG]
        · exact Nat.zero_le _
    · exact sc_small he h
theorem v26 {e : Ex} : Rt e → bk e.enc ≤ BIG → okR e := by
  induction e using Ex.ind with
  | h e i1 i2 =>
    intro hr hb
    have hx := bk_ex' e
    have ev := e26 e.kind e.num e.text (e.names.map .str) e.types (e.args.map Ex.enc) (e.arms.map eArm) e.at_
    rw [← ex_enc, v64 hr hb] at ev
    unfold okR
    rw [ev]
    cases h5 : e.kind == 5 with
    | true =>
      have k5 : e.kind = 5 := by simpa using h5
      exact ⟨[e.text], rfl, by simp; omega, fun s => by rw [fv_var k5]; simp⟩
    | false =>
      have k5 : e.kind ≠ 5 := by simpa using h5
      have hC := cnt_len e
      have hS := sumC_cnt e
      have hs : ∀ p, p ∈ cnt e → okR p.1 ∧ p.2.length ≤ maxLen ∧ bk p.1.enc ≤ BIG := fun p hp => by
        have hpb := sc_sum hp
        refine ⟨?_, ?_, by omega⟩
        · have hpr := cnt_rt hr hp
          unfold cnt at hp
          rcases List.mem_append.1 hp with h | h
          · exact i1 _ (scs_mem h) hpr (by omega)
          · obtain ⟨x, hx, rfl⟩ := List.mem_map.1 h
            have e1 : bk (armS x).1.enc = bk x.2.enc := rfl
            exact i2 x hx hpr (by omega)
        · unfold cnt at hp
          rcases List.mem_append.1 hp with h | h
          · exact len_max (sc_small (by omega) h)
          · obtain ⟨x, hx', rfl⟩ := List.mem_map.1 h
            have h1 := bn_len x.1
            have h2 := bk_arms' hx'
            have h3 := bk_arm x
            have h4 := bkE_pos x.2
            exact len_max (show (bn x.1).length ≤ BIG by omega)
      obtain ⟨r, q1, q2, q3⟩ := l26 (C := cnt e) (by omega) hs (cnt e) 0 [] rfl (by simp; omega)
      have q1' : L26_111014 [] ((cnt e).map eSc) 0 = some (.bld 1 (r.map .str), []) := q1
      simp only [cond_false, Option.bind_some, fits_lstS, cond_true, toLst_lst]
      rw [q1']
      refine ⟨r, rfl, by simp at q2; omega, fun s => ?_⟩
      rw [q3 s, fv_part k5]
      simp
end Go.AL.S9.Fr
