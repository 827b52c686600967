/- Expressions: parts, walks, depths. -/
import Derived.Test.YtofjejdlggmcjaaS3Tree
set_option linter.unusedVariables false
set_option linter.unusedSimpArgs false
namespace Go.AL.S3
open Go Go.AL

def parts (e : Ex) : List Ex := e.args ++ e.arms.map (·.2)
theorem sumE_snd (l : List (Pa × Ex)) : sumE (l.map (·.2)) ≤ sumA l := by
  induction l with
  | nil => simp [sumE, sumA]
  | cons x l ih =>
    have h1 := bk_arm x
    have h2 := bk_pos x.1
    rw [List.map_cons, sumE_cons, sumA_cons]; omega
theorem sumE_parts (e : Ex) : sumE (parts e) + 2 ≤ bk e.enc := by
  have h1 := bk_ex e
  have h2 := sumE_snd e.arms
  unfold parts
  rw [sumE_append]; omega
theorem headOk_ex (l : List Ex) : headOk 8 (l.map Ex.enc) = true := by
  cases l with
  | nil => rfl
  | cons e l => simp [headOk, ex_enc, PV.cells]
theorem headOk_pa (l : List Pa) : headOk 4 (l.map Pa.enc) = true := by
  cases l with
  | nil => rfl
  | cons e l => simp [headOk, pa_enc, PV.cells]
theorem v91 {l : List Ex} (h : l.length ≤ BIG) : V 91 [.pv (.lst (l.map Ex.enc))] = some (.bld 8 (l.map Ex.enc), []) := by
  rw [e91]
  unfold cloneOut
  have h2 : small 0 (l.map Ex.enc).length 136 = true := small_of (by simp only [BIG] at h; simp; omega)
  rw [headOk_ex, h2]
  rfl
theorem l48 {arms : List (Pa × Ex)} (hl : arms.length ≤ BIG) : ∀ (l : List (Pa × Ex)) (k : Nat) (acc : List Ex), arms.drop k = l → acc.length + l.length ≤ 2 * BIG → L48_11014 (acc.map Ex.enc) (arms.map eArm) k = some (.bld 8 ((acc ++ l.map (·.2)).map Ex.enc), [])
  | [], k, acc, h, _ => by rw [e48_11014, endK_map h]; simp
  | x :: l, k, acc, h, hacc => by
    have A := atK_map (f := eArm) h (len_max hl)
    have A' := atK h (len_max hl)
    have ih := l48 hl l (k + 1) (acc ++ [x.2]) A'.drop (by simp at hacc ⊢; omega)
    have hs : small (acc.map Ex.enc).length 1 136 = true := small_of (by simp only [BIG] at hacc; simp at hacc ⊢; omega)
    rw [e48_11014]
    simp only [A.lt, A.ge, A.get, A.next, cond_true, Option.bind_some]
    simp only [arm_fits, arm_ex, cond_true, hs]
    rw [show acc.map Ex.enc ++ [x.2.enc] = (acc ++ [x.2]).map Ex.enc by simp, ih]
    simp
theorem v48 {e : Ex} (hb : bk e.enc ≤ BIG) : V 48 [.pv e.enc] = some (.bld 8 ((parts e).map Ex.enc), []) := by
  have h1 := bk_ex e
  have h2 := len_sumE e.args
  have h3 := len_sumA e.arms
  rw [ex_enc, e48, v91 (by omega)]
  simp only [Option.bind_some, retB_bld]
  exact l48 (by omega) e.arms 0 e.args rfl (by omega)

/-! #### Walks -/
def okW (e : Ex) : Prop := ∃ W : List Ex, V 50 [.pv e.enc] = some (.bld 8 (W.map Ex.enc), []) ∧ W.length + 1 ≤ bk e.enc
theorem l50 {P : List Ex} (hl : P.length ≤ BIG) (hs : ∀ a, a ∈ P → okW a) : ∀ (l : List Ex) (k : Nat) (acc : List Ex), P.drop k = l → acc.length + sumE l ≤ 2 * BIG →
    ∃ W : List Ex, L50_11014 (acc.map Ex.enc) (P.map Ex.enc) k = some (.bld 8 (W.map Ex.enc), []) ∧ W.length = acc.length + (l.map fun a => (ansL 50 a.enc).length).sum ∧ W.length ≤ acc.length + sumE l
  | [], k, acc, h, _ => ⟨acc, by rw [e50_11014, endK_map h]; rfl, by simp, by simp [sumE]⟩
  | x :: l, k, acc, h, hacc => by
    have A := atK_map (f := Ex.enc) h (len_max hl)
    have A' := atK h (len_max hl)
    obtain ⟨W, hv, hW⟩ := hs x (mem_drop h)
    rw [sumE_cons] at hacc ⊢
    obtain ⟨W', g1, g2, g3⟩ := l50 hl hs l (k + 1) (acc ++ W) A'.drop (by simp; omega)
    have hsm : small (acc.map Ex.enc).length (W.map Ex.enc).length 136 = true := small_of (by simp only [BIG] at hacc; simp; omega)
    refine ⟨W', ?_, ?_, ?_⟩
    · rw [e50_11014]
      simp only [A.lt, A.ge, A.get, A.next, cond_true, Option.bind_some]
      simp only [ex_fits, ex_eta, cond_true, hv, Option.bind_some, retPV_bld, fits_lstS, toLst_lst, headOk_ex, hsm]
      rw [show acc.map Ex.enc ++ W.map Ex.enc = (acc ++ W).map Ex.enc by simp]
      exact g1
    · rw [g2, List.map_cons, List.sum_cons, ansL_of hv]; simp; omega
    · simp at g3; omega
theorem v50' {e : Ex} (hb : bk e.enc ≤ BIG) (hs : ∀ a, a ∈ parts e → okW a) : ∃ W : List Ex, V 50 [.pv e.enc] = some (.bld 8 (W.map Ex.enc), []) ∧ W.length + 1 ≤ bk e.enc ∧ W.length = 1 + ((parts e).map fun a => (ansL 50 a.enc).length).sum := by
  have h1 := sumE_parts e
  have h2 := len_sumE (parts e)
  obtain ⟨W, g1, g2, g3⟩ := l50 (P := parts e) (by omega) hs (parts e) 0 [e] rfl (by simp; simp only [BIG] at hb ⊢; omega)
  have hp := v48 hb
  have he := ex_enc e
  refine ⟨W, ?_, by simp at g3; omega, by simpa using g2⟩
  rw [he] at hp ⊢
  rw [e50, hp]
  simp only [Option.bind_some, retPV_bld, fits_lstS, toLst_lst, cond_true]
  rw [← he]
  exact g1
theorem mem_parts {e a : Ex} (h : a ∈ parts e) : bk a.enc + 2 ≤ bk e.enc := by
  have h1 := sumE_parts e
  have : bk a.enc ≤ sumE (parts e) := le_sum (List.mem_map.2 ⟨a, h, rfl⟩)
  omega
theorem Ex.indP {Q : Ex → Prop} (h : ∀ e, (∀ a, a ∈ parts e → Q a) → Q e) (e : Ex) : Q e :=
  Ex.ind (fun e i1 i2 => h e fun a ha => by
    unfold parts at ha
    rcases List.mem_append.1 ha with ha | ha
    · exact i1 a ha
    · obtain ⟨x, hx, rfl⟩ := List.mem_map.1 ha
      exact i2 x hx) e
theorem v50 {e : Ex} (hb : bk e.enc ≤ BIG) : okW e := by
  revert hb
  refine Ex.indP (Q := fun e => bk e.enc ≤ BIG → okW e) (fun e ih hb => ?_) e
  obtain ⟨W, h1, h2, _⟩ := v50' hb fun a ha => ih a ha (by have := mem_parts ha; omega)
  exact ⟨W, h1, h2⟩

/-! #### All nodes; how many -/
theorem l87 : ∀ (N : Nat) (rest done : List Pa), sumP rest ≤ N → done.length + sumP rest ≤ 2 * BIG → ∃ r : List Pa, L87_11014 ((done ++ rest).map Pa.enc) (done.length : Nat) = some (.bld 4 (r.map Pa.enc), []) ∧ r.length ≤ done.length + sumP rest
  | N, [], done, _, _ => ⟨done, by rw [e87_11014, endK_map (by simp)]; simp, by simp [sumP]⟩
  | 0, x :: rest, done, h, _ => by rw [sumP_cons] at h; have := bk_pos x; omega
  | N + 1, x :: rest, done, h, hb => by
    have hxs : (done ++ x :: rest).drop done.length = x :: rest := by simp
    rw [sumP_cons] at h hb
    have hx := bk_pa x
    have hl1 := len_sumP rest
    have hl2 := len_sumP x.args
    have hlen : (done ++ x :: rest).length ≤ maxLen := by simp only [BIG] at hb; simp [maxLen]; omega
    have A := atK_map (f := Pa.enc) hxs hlen
    have A' := atK hxs hlen
    obtain ⟨r, g1, g2⟩ := l87 N (rest ++ x.args) (done ++ [x]) (by rw [sumP_append]; omega) (by rw [sumP_append]; simp; omega)
    refine ⟨r, ?_, by rw [sumP_append] at g2; rw [sumP_cons]; simp at g2; omega⟩
    have hsm : small ((done ++ x :: rest).map Pa.enc).length (x.args.map Pa.enc).length 56 = true := small_of (by simp only [BIG] at hb; simp; omega)
    rw [e87_11014]
    simp only [A.lt, A.ge, A.get, A.next, cond_true, Option.bind_some]
    simp only [pa_fits, pa_3, cond_true, headOk_pa, hsm]
    rw [show (done ++ x :: rest).map Pa.enc ++ x.args.map Pa.enc = ((done ++ [x]) ++ (rest ++ x.args)).map Pa.enc by simp, show ((done.length + 1 : Nat) : Int) = (((done ++ [x]).length : Nat) : Int) by simp]
    exact g1
theorem v87 {p : Pa} (hb : bk p.enc ≤ BIG) : ∃ r : List Pa, V 87 [.pv p.enc] = some (.bld 4 (r.map Pa.enc), []) ∧ r.length ≤ BIG := by
  obtain ⟨r, g1, g2⟩ := l87 _ [p] [] (Nat.le_refl _) (by rw [sumP_cons]; simp [sumP]; simp only [BIG] at hb ⊢; omega)
  refine ⟨r, ?_, by rw [sumP_cons] at g2; simp [sumP] at g2; omega⟩
  have he := pa_enc p
  rw [he, e87, ← he]
  exact g1
theorem l86b (e : Ex) {out : List Ex} (hb : bk e.enc ≤ BIG) : ∀ (n : Nat) (st : List Ex), n ≤ e.args.length → st.length + n ≤ 2 * BIG →
    L86_11104514111114 (out.map Ex.enc) ((n : Int) - 1) e.kind e.num e.text (e.names.map .str) e.types (e.args.map Ex.enc) (e.arms.map eArm) e.at_ (st.map Ex.enc) = L86_11104 (out.map Ex.enc) ((st ++ (e.args.take n).reverse).map Ex.enc)
  | 0, st, _, _ => by
    rw [e86_11104514111114, show decide (((0 : Nat) : Int) - 1 ≥ 0) = false from rfl]
    simp
  | n + 1, st, hn, hst => by
    have hlt : n < e.args.length := by omega
    have ih := l86b e (out := out) hb n (st ++ [e.args[n]]) (by omega) (by simp; omega)
    have hsm : small (st.map Ex.enc).length 1 136 = true := small_of (by simp only [BIG] at hst; simp; omega)
    have hlen : e.args.length ≤ BIG := by have := bk_ex e; have := len_sumE e.args; omega
    have e1 : (((n + 1 : Nat) : Int) - 1) = (n : Int) := by omega
    have e2 : IntKind.i64.wrap ((n : Int) - 1) = (n : Int) - 1 := wrap_i64 (by omega) (by simp only [BIG] at hlen; omega)
    have hg : (e.args.map Ex.enc)[((n : Nat) : Int).toNat]? = some (e.args[n]).enc := by simp [List.getElem?_eq_getElem hlt]
    rw [e86_11104514111114, e1, show decide ((n : Int) ≥ 0) = true from decide_eq_true (by omega), hg, e2]
    simp only [cond_true, Option.bind_some, decide_eq_true (show (0 : Int) ≤ (n : Int) by omega), ex_fits, ex_eta, hsm]
    rw [show st.map Ex.enc ++ [(e.args[n]).enc] = (st ++ [e.args[n]]).map Ex.enc by simp, ih]
    have : e.args.take (n + 1) = e.args.take n ++ [e.args[n]] := by rw [List.take_add_one, List.getElem?_eq_getElem hlt]; rfl
    rw [this, List.reverse_append, List.append_assoc]
    rfl
theorem l86a (e : Ex) {out : List Ex} (hb : bk e.enc ≤ BIG) : ∀ (n : Nat) (st : List Ex), n ≤ e.arms.length → st.length + n ≤ 2 * BIG → st.length + n + e.args.length ≤ 2 * BIG →
    L86_11104514111014 (out.map Ex.enc) ((n : Int) - 1) e.kind e.num e.text (e.names.map .str) e.types (e.args.map Ex.enc) (e.arms.map eArm) e.at_ (st.map Ex.enc) = L86_11104 (out.map Ex.enc) ((st ++ ((e.arms.take n).map (·.2)).reverse ++ e.args.reverse).map Ex.enc)
  | 0, st, _, _, h3 => by
    have hlen : e.args.length ≤ BIG := by have := bk_ex e; have := len_sumE e.args; omega
    rw [e86_11104514111014, show decide (((0 : Nat) : Int) - 1 ≥ 0) = false from rfl]
    simp only [cond_false, List.length_map]
    rw [wrap_i64 (by omega) (by simp only [BIG] at hlen; omega), l86b e hb e.args.length st (Nat.le_refl _) (by omega)]
    simp
  | n + 1, st, hn, hst, h3 => by
    have hlt : n < e.arms.length := by omega
    have ih := l86a e (out := out) hb n (st ++ [(e.arms[n]).2]) (by omega) (by simp; omega) (by simp; omega)
    have hsm : small (st.map Ex.enc).length 1 136 = true := small_of (by simp only [BIG] at hst; simp; omega)
    have hlen : e.arms.length ≤ BIG := by have := bk_ex e; have := len_sumA e.arms; omega
    have e1 : (((n + 1 : Nat) : Int) - 1) = (n : Int) := by omega
    have e2 : IntKind.i64.wrap ((n : Int) - 1) = (n : Int) - 1 := wrap_i64 (by omega) (by simp only [BIG] at hlen; omega)
    have hg : (e.arms.map eArm)[((n : Nat) : Int).toNat]? = some (eArm e.arms[n]) := by simp [List.getElem?_eq_getElem hlt]
    rw [e86_11104514111014, e1, show decide ((n : Int) ≥ 0) = true from decide_eq_true (by omega), hg, e2]
    simp only [cond_true, Option.bind_some, decide_eq_true (show (0 : Int) ≤ (n : Int) by omega), arm_fits, arm_ex, hsm]
    rw [show st.map Ex.enc ++ [(e.arms[n]).2.enc] = (st ++ [(e.arms[n]).2]).map Ex.enc by simp, ih]
    have : e.arms.take (n + 1) = e.arms.take n ++ [e.arms[n]] := by rw [List.take_add_one, List.getElem?_eq_getElem hlt]; rfl
    have e3 : ((e.arms.take (n + 1)).map (·.2)).reverse = [(e.arms[n]).2] ++ ((e.arms.take n).map (·.2)).reverse := by rw [this, List.map_append, List.reverse_append]; rfl
    rw [e3]
    simp only [List.append_assoc]
theorem l86 {M : Nat} (hM : M ≤ BIG) : ∀ (N : Nat) (st out : List Ex), sumE st ≤ N → out.length + sumE st ≤ M → (∀ x, x ∈ st → bk x.enc ≤ M) → (∀ x, x ∈ out → bk x.enc ≤ M) →
    ∃ r : List Ex, L86_11104 (out.map Ex.enc) (st.map Ex.enc) = some (.bld 8 (r.map Ex.enc), []) ∧ r.length ≤ out.length + sumE st ∧ ∀ x, x ∈ r → bk x.enc ≤ M := by
    intro N
    induction N using Nat.strongRecOn with
    | _ N ih =>
    intro st out hN hb h1 h2
    rcases List.eq_nil_or_concat st with rfl | ⟨st', y, rfl⟩
    · refine ⟨out, ?_, by simp [sumE], h2⟩
      rw [e86_11104]
      rfl
    · rw [List.concat_eq_append] at *
      have hsum : sumE (st' ++ [y]) = sumE st' + bk y.enc := by rw [sumE_append, sumE_cons]; simp [sumE]
      rw [hsum] at hN hb
      have hyb : bk y.enc ≤ M := h1 y (by simp)
      have hpy := bk_ex y
      have hl0 := len_sumE st'
      have hl1 := len_sumE y.args
      have hl2 := len_sumA y.arms
      have hp2 := sumE_snd y.arms
      obtain ⟨r, g1, g2, g3⟩ := ih (N - 1) (by omega) (st' ++ (y.arms.map (·.2)).reverse ++ y.args.reverse) (out ++ [y])
        (by
          have e1 : sumE (y.arms.map (·.2)).reverse = sumE (y.arms.map (·.2)) := by unfold sumE; rw [List.map_reverse, List.sum_reverse]
          have e2 : sumE y.args.reverse = sumE y.args := by unfold sumE; rw [List.map_reverse, List.sum_reverse]
          rw [sumE_append, sumE_append, e1, e2]; omega)
        (by
          have e1 : sumE (y.arms.map (·.2)).reverse = sumE (y.arms.map (·.2)) := by unfold sumE; rw [List.map_reverse, List.sum_reverse]
          have e2 : sumE y.args.reverse = sumE y.args := by unfold sumE; rw [List.map_reverse, List.sum_reverse]
          rw [sumE_append, sumE_append, e1, e2]; simp; omega)
        (by
          intro x hx
          simp only [List.mem_append, List.mem_reverse, List.mem_map] at hx
          rcases hx with (hx | ⟨z, hz, rfl⟩) | hx
          · exact h1 x (by simp [hx])
          · exact Nat.le_trans (bk_arms hz).1 hyb
          · have := bk_args hx; omega)
        (by
          intro x hx
          rcases List.mem_append.1 hx with hx | hx
          · exact h2 x hx
          · obtain rfl := List.mem_singleton.1 hx; exact hyb)
      refine ⟨r, ?_, ?_, g3⟩
      · have hlen : ((st' ++ [y]).map Ex.enc).length = st'.length + 1 := by simp
        have e1 : IntKind.i64.wrap (((st'.length + 1 : Nat) : Int) - 1) = (st'.length : Int) := by rw [wrap_i64 (by omega) (by simp only [BIG] at hM; omega)]; omega
        have hg : ((st' ++ [y]).map Ex.enc)[((st'.length : Nat) : Int).toNat]? = some y.enc := by simp
        have ht : ((st' ++ [y]).map Ex.enc).take ((st'.length : Nat) : Int).toNat = st'.map Ex.enc := by simp
        have hsm : small (out.map Ex.enc).length 1 136 = true := small_of (by simp only [BIG] at hM; simp; omega)
        have harm := l86a y (out := out ++ [y]) (by omega) y.arms.length st' (Nat.le_refl _) (by simp only [BIG] at hM ⊢; omega) (by simp only [BIG] at hM ⊢; omega)
        rw [e86_11104, hlen, e1, hg, ht]
        simp only [decide_eq_true (show ((st'.length + 1 : Nat) : Int) > 0 by omega), decide_eq_true (show (0 : Int) ≤ (st'.length : Int) by omega), decide_eq_true (show (st'.length : Int) < ((st'.length + 1 : Nat) : Int) by omega), decide_eq_true (show (st'.length : Int) ≤ ((st'.length + 1 : Nat) : Int) by omega), cond_true, Bool.and_self, Option.bind_some, ex_fits, ex_eta, hsm]
        simp only [ex_0, ex_1, ex_2, ex_3, ex_4, ex_5, ex_6, ex_7, List.length_map]
        rw [wrap_i64 (by omega) (by simp only [BIG] at hM; omega), show out.map Ex.enc ++ [y.enc] = (out ++ [y]).map Ex.enc by simp, harm, List.take_length]
        exact g1
      · have e1 : sumE (y.arms.map (·.2)).reverse = sumE (y.arms.map (·.2)) := by unfold sumE; rw [List.map_reverse, List.sum_reverse]
        have e2 : sumE y.args.reverse = sumE y.args := by unfold sumE; rw [List.map_reverse, List.sum_reverse]
        rw [sumE_append, sumE_append, e1, e2] at g2
        rw [hsum]
        simp at g2; omega
theorem v86 {e : Ex} (hb : bk e.enc ≤ BIG) : ∃ r : List Ex, V 86 [.pv e.enc] = some (.bld 8 (r.map Ex.enc), []) ∧ r.length ≤ BIG ∧ ∀ x, x ∈ r → bk x.enc ≤ BIG := by
  have hs : sumE [e] = bk e.enc := by rw [sumE_cons]; simp [sumE]
  obtain ⟨r, g1, g2, g3⟩ := l86 (M := BIG) (Nat.le_refl _) _ [e] [] (Nat.le_refl _) (by rw [hs]; simpa using hb) (by simpa using hb) (by simp)
  refine ⟨r, ?_, by rw [hs] at g2; simp at g2; omega, g3⟩
  have he := ex_enc e
  rw [he, e86, ← he]
  exact g1
theorem l43b {v : List PV} {arms : List (Pa × Ex)} (hl : arms.length ≤ BIG) (hb : ∀ x, x ∈ arms → bk x.1.enc ≤ BIG) (i2 : Int) : ∀ (l : List (Pa × Ex)) (k : Nat) (i : Int), arms.drop k = l → 0 ≤ i → i + l.length * 1048576 ≤ 4611686018427387904 →
    ∃ j, L43_11014511041114 i v i2 (arms.map eArm) k = L43_11014 j v (IntKind.i64.wrap (i2 + 1)) ∧ i ≤ j ∧ j ≤ i + l.length * 1048576
  | [], k, i, h, _, _ => ⟨i, by rw [e43_11014511041114, endK_map h]; rfl, by omega, by simp⟩
  | x :: l, k, i, h, h0, h1 => by
    have A := atK_map (f := eArm) h (len_max hl)
    have A' := atK h (len_max hl)
    obtain ⟨r, hv, hr⟩ := v87 (hb x (mem_drop h))
    rw [List.length_cons] at h1 ⊢
    simp only [BIG] at hr
    have hw : IntKind.i64.wrap (i + (r.length : Int)) = i + r.length := wrap_i64 (by omega) (by omega)
    obtain ⟨j, g1, g2, g3⟩ := l43b (v := v) hl hb i2 l (k + 1) (i + r.length) A'.drop (by omega) (by omega)
    refine ⟨j, ?_, by omega, by omega⟩
    rw [e43_11014511041114]
    simp only [A.lt, A.ge, A.get, A.next, cond_true, Option.bind_some]
    simp only [arm_fits, arm_pa, cond_true, hv, Option.bind_some, retPV_bld, fits_lstS, toLst_lst, List.length_map, hw]
    exact g1
theorem l43 {P : List Ex} (hl : P.length ≤ BIG) (hb : ∀ x, x ∈ P → bk x.enc ≤ BIG) : ∀ (l : List Ex) (k : Nat) (i : Int), P.drop k = l → 0 ≤ i → i + l.length * 1099511627777 ≤ 2305843009213693952 →
    ∃ j, L43_11014 i (P.map Ex.enc) k = some (.pv (.int .i64 j), []) ∧ i ≤ j ∧ j ≤ i + l.length * 1099511627777
  | [], k, i, h, _, _ => ⟨i, by rw [e43_11014, endK_map h]; rfl, by omega, by simp⟩
  | x :: l, k, i, h, h0, h1 => by
    have A := atK_map (f := Ex.enc) h (len_max hl)
    have A' := atK h (len_max hl)
    have hbx := hb x (mem_drop h)
    have h3 := len_sumA x.arms
    have h4 := bk_ex x
    rw [List.length_cons] at h1 ⊢
    have hbx' := hbx
    simp only [BIG] at hbx'
    have hw : IntKind.i64.wrap (i + 1) = i + 1 := wrap_i64 (by omega) (by omega)
    obtain ⟨j, g1, g2, g3⟩ := l43b (v := P.map Ex.enc) (arms := x.arms) (by omega) (fun y hy => Nat.le_trans (bk_arms hy).2 hbx) (k : Int) x.arms 0 (i + 1) rfl (by omega) (by omega)
    obtain ⟨j', k1, k2, k3⟩ := l43 hl hb l (k + 1) j A'.drop (by omega) (by omega)
    refine ⟨j', ?_, by omega, by omega⟩
    rw [e43_11014]
    simp only [A.lt, A.ge, A.get, cond_true, Option.bind_some]
    simp only [ex_fits, ex_6, cond_true, hw]
    rw [A.next] at g1
    exact g1.trans k1
theorem v43 {e : Ex} (hb : bk e.enc ≤ BIG) : ∃ n : Int, V 43 [.pv e.enc] = some (.pv (.int .i64 n), []) ∧ 0 ≤ n ∧ n ≤ 1152921505680588800 := by
  obtain ⟨r, hv, hr, hx⟩ := v86 hb
  have hr' := hr
  simp only [BIG] at hr'
  obtain ⟨j, g1, g2, g3⟩ := l43 hr hx r 0 0 rfl (by omega) (by omega)
  have he := ex_enc e
  refine ⟨j, ?_, g2, by omega⟩
  rw [he] at hv ⊢
  rw [e43, hv]
  simp only [Option.bind_some, retPV_bld, fits_lstS, toLst_lst, cond_true]
  exact g1

/-! #### The law -/
theorem v47 : V 47 [] = some (.pv (.bool true), []) := (V_A pa 47 []).le 40 _ (by kernel_rfl)
end Go.AL.S3
