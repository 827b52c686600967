/- Expressions: parts, walks, depths. -/
import Derived.Test.YtlmodlihiglnhaaDoorS10Tree
set_option linter.unusedVariables false
set_option linter.unusedSimpArgs false
namespace Go.AL.S10
open Go Go.AL

def parts (e : Ex) : List Ex := e.args ++ e.arms.map (·.2)
theorem sumE_snd (l : List (Pa × Ex)) : sumE (l.map (·.2)) ≤ sumA l := by
  induction l with
  | nil => simp [sumE, sumA]
  | cons x l ih =>
    have h1 := bk_arm x
    have h2 := bk_pos x.1
    rw [List.map_cons, sumE_cons, sumA_cons]; omega
theorem sumE_parts (e : Ex) : sumE (parts e) + 2 ≤ bk e.enc := by
  have h1 := bk_ex e
  have h2 := sumE_snd e.arms
  unfold parts
  rw [sumE_append]; omega
theorem headOk_ex (l : List Ex) : headOk 8 (l.map Ex.enc) = true := by
  cases l with
  | nil => rfl
  | cons e l => simp [headOk, ex_enc, PV.cells]
theorem headOk_pa (l : List Pa) : headOk 4 (l.map Pa.enc) = true := by
  cases l with
  | nil => rfl
  | cons e l => simp [headOk, pa_enc, PV.cells]
theorem mem_parts {e a : Ex} (h : a ∈ parts e) : bk a.enc + 2 ≤ bk e.enc := by
  have h1 := sumE_parts e
  have : bk a.enc ≤ sumE (parts e) := le_sum (List.mem_map.2 ⟨a, h, rfl⟩)
  omega
theorem Ex.indP {Q : Ex → Prop} (h : ∀ e, (∀ a, a ∈ parts e → Q a) → Q e) (e : Ex) : Q e :=
  Ex.ind (fun e i1 i2 => h e fun a ha => by
    unfold parts at ha
    rcases List.mem_append.1 ha with ha | ha
    · exact i1 a ha
    · obtain ⟨x, hx, rfl⟩ := List.mem_map.1 ha
      exact i2 x hx) e
theorem l99 : ∀ (N : Nat) (rest done : List Pa), sumP rest ≤ N → done.length + sumP rest ≤ 2 * BIG → ∃ r : List Pa, L99_11014 ((done ++ rest).map Pa.enc) (done.length : Nat) = some (.bld 4 (r.map Pa.enc), []) ∧ r.length ≤ done.length + sumP rest
  | N, [], done, _, _ => ⟨done, by rw [e99_11014, endK_map (by simp)]; simp, by simp [sumP]⟩
  | 0, x :: rest, done, h, _ => by rw [sumP_cons] at h; have := bk_pos x; omega
  | N + 1, x :: rest, done, h, hb => by
    have hxs : (done ++ x :: rest).drop done.length = x :: rest := by simp
    rw [sumP_cons] at h hb
    have hx := bk_pa x
    have hl1 := len_sumP rest
    have hl2 := len_sumP x.args
    have hlen : (done ++ x :: rest).length ≤ maxLen := by simp only [BIG] at hb; simp [maxLen]; omega
    have A := atK_map (f := Pa.enc) hxs hlen
    have A' := atK hxs hlen
    obtain ⟨r, g1, g2⟩ := l99 N (rest ++ x.args) (done ++ [x]) (by rw [sumP_append]; omega) (by rw [sumP_append]; simp; omega)
    refine ⟨r, ?_, by rw [sumP_append] at g2; rw [sumP_cons]; simp at g2; omega⟩
    have hsm : small ((done ++ x :: rest).map Pa.enc).length (x.args.map Pa.enc).length 56 = true := small_of (by simp only [BIG] at hb; simp; omega)
    rw [e99_11014]
    simp only [A.lt, A.ge, A.get, A.next, cond_true, Option.bind_some]
    simp only [pa_fits, pa_3, cond_true, headOk_pa, hsm]
    rw [show (done ++ x :: rest).map Pa.enc ++ x.args.map Pa.enc = ((done ++ [x]) ++ (rest ++ x.args)).map Pa.enc by simp, show ((done.length + 1 : Nat) : Int) = (((done ++ [x]).length : Nat) : Int) by simp]
    exact g1
theorem v99 {p : Pa} (hb : bk p.enc ≤ BIG) : ∃ r : List Pa, V 99 [.pv p.enc] = some (.bld 4 (r.map Pa.enc), []) ∧ r.length ≤ BIG := by
  obtain ⟨r, g1, g2⟩ := l99 _ [p] [] (Nat.le_refl _) (by rw [sumP_cons]; simp [sumP]; simp only [BIG] at hb ⊢; omega)
  refine ⟨r, ?_, by rw [sumP_cons] at g2; simp [sumP] at g2; omega⟩
  have he := pa_enc p
  rw [he, e99, ← he]
  exact g1
theorem l98b (e : Ex) {out : List Ex} (hb : bk e.enc ≤ BIG) : ∀ (n : Nat) (st : List Ex), n ≤ e.args.length → st.length + n ≤ 2 * BIG →
    L98_11104514111114 (out.map Ex.enc) ((n : Int) - 1) e.kind e.num e.text (e.names.map .str) e.types (e.args.map Ex.enc) (e.arms.map eArm) e.at_ (st.map Ex.enc) = L98_11104 (out.map Ex.enc) ((st ++ (e.args.take n).reverse).map Ex.enc)
  | 0, st, _, _ => by
    rw [e98_11104514111114, show decide (((0 : Nat) : Int) - 1 ≥ 0) = false from rfl]
    simp
  | n + 1, st, hn, hst => by
    have hlt : n < e.args.length := by omega
    have ih := l98b e (out := out) hb n (st ++ [e.args[n]]) (by omega) (by simp; omega)
    have hsm : small (st.map Ex.enc).length 1 136 = true := small_of (by simp only [BIG] at hst; simp; omega)
    have hlen : e.args.length ≤ BIG := by have := bk_ex e; have := len_sumE e.args; omega
    have e1 : (((n + 1 : Nat) : Int) - 1) = (n : Int) := by omega
    have e2 : IntKind.i64.wrap ((n : Int) - 1) = (n : Int) - 1 := wrap_i64 (by omega) (by simp only [BIG] at hlen; omega)
    have hg : (e.args.map Ex.enc)[((n : Nat) : Int).toNat]? = some (e.args[n]).enc := by simp [List.getElem?_eq_getElem hlt]
    rw [e98_11104514111114, e1, show decide ((n : Int) ≥ 0) = true from decide_eq_true (by omega), hg, e2]
    simp only [cond_true, Option.bind_some, decide_eq_true (show (0 : Int) ≤ (n : Int) by omega), ex_fits, ex_eta, hsm]
    rw [show st.map Ex.enc ++ [(e.args[n]).enc] = (st ++ [e.args[n]]).map Ex.enc by simp, ih]
    have : e.args.take (n + 1) = e.args.take n ++ [e.args[n]] := by rw [List.take_add_one, List.getElem?_eq_getElem hlt]; rfl
    rw [this, List.reverse_append, List.append_assoc]
    rfl
theorem l98a (e : Ex) {out : List Ex} (hb : bk e.enc ≤ BIG) : ∀ (n : Nat) (st : List Ex), n ≤ e.arms.length → st.length + n ≤ 2 * BIG → st.length + n + e.args.length ≤ 2 * BIG →
    L98_11104514111014 (out.map Ex.enc) ((n : Int) - 1) e.kind e.num e.text (e.names.map .str) e.types (e.args.map Ex.enc) (e.arms.map eArm) e.at_ (st.map Ex.enc) = L98_11104 (out.map Ex.enc) ((st ++ ((e.arms.take n).map (·.2)).reverse ++ e.args.reverse).map Ex.enc)
  | 0, st, _, _, h3 => by
    have hlen : e.args.length ≤ BIG := by have := bk_ex e; have := len_sumE e.args; omega
    rw [e98_11104514111014, show decide (((0 : Nat) : Int) - 1 ≥ 0) = false from rfl]
    simp only [cond_false, List.length_map]
    rw [wrap_i64 (by omega) (by simp only [BIG] at hlen; omega), l98b e hb e.args.length st (Nat.le_refl _) (by omega)]
    simp
  | n + 1, st, hn, hst, h3 => by
    have hlt : n < e.arms.length := by omega
    have ih := l98a e (out := out) hb n (st ++ [(e.arms[n]).2]) (by omega) (by simp; omega) (by simp; omega)
    have hsm : small (st.map Ex.enc).length 1 136 = true := small_of (by simp only [BIG] at hst; simp; omega)
    have hlen : e.arms.length ≤ BIG := by have := bk_ex e; have := len_sumA e.arms; omega
    have e1 : (((n + 1 : Nat) : Int) - 1) = (n : Int) := by omega
    have e2 : IntKind.i64.wrap ((n : Int) - 1) = (n : Int) - 1 := wrap_i64 (by omega) (by simp only [BIG] at hlen; omega)
    have hg : (e.arms.map eArm)[((n : Nat) : Int).toNat]? = some (eArm e.arms[n]) := by simp [List.getElem?_eq_getElem hlt]
    rw [e98_11104514111014, e1, show decide ((n : Int) ≥ 0) = true from decide_eq_true (by omega), hg, e2]
    simp only [cond_true, Option.bind_some, decide_eq_true (show (0 : Int) ≤ (n : Int) by omega), arm_fits, arm_ex, hsm]
    rw [show st.map Ex.enc ++ [(e.arms[n]).2.enc] = (st ++ [(e.arms[n]).2]).map Ex.enc by simp, ih]
    have : e.arms.take (n + 1) = e.arms.take n ++ [e.arms[n]] := by rw [List.take_add_one, List.getElem?_eq_getElem hlt]; rfl
    have e3 : ((e.arms.take (n + 1)).map (·.2)).reverse = [(e.arms[n]).2] ++ ((e.arms.take n).map (·.2)).reverse := by rw [this, List.map_append, List.reverse_append]; rfl
    rw [e3]
    simp only [List.append_assoc]
theorem l98 {M : Nat} (hM : M ≤ BIG) : ∀ (N : Nat) (st out : List Ex), sumE st ≤ N → out.length + sumE st ≤ M → (∀ x, x ∈ st → bk x.enc ≤ M) → (∀ x, x ∈ out → bk x.enc ≤ M) →
    ∃ r : List Ex, L98_11104 (out.map Ex.enc) (st.map Ex.enc) = some (.bld 8 (r.map Ex.enc), []) ∧ r.length ≤ out.length + sumE st ∧ ∀ x, x ∈ r → bk x.enc ≤ M := by
    intro N
    induction N using Nat.strongRecOn with
    | _ N ih =>
    intro st out hN hb h1 h2
    rcases List.eq_nil_or_concat st with rfl | ⟨st', y, rfl⟩
    · refine ⟨out, ?_, by simp [sumE], h2⟩
      rw [e98_11104]
      rfl
    · rw [List.concat_eq_append] at *
      have hsum : sumE (st' ++ [y]) = sumE st' + bk y.enc := by rw [sumE_append, sumE_cons]; simp [sumE]
      rw [hsum] at hN hb
      have hyb : bk y.enc ≤ M := h1 y (by simp)
      have hpy := bk_ex y
      have hl0 := len_sumE st'
      have hl1 := len_sumE y.args
      have hl2 := len_sumA y.arms
      have hp2 := sumE_snd y.arms
      obtain ⟨r, g1, g2, g3⟩ := ih (N - 1) (by omega) (st' ++ (y.arms.map (·.2)).reverse ++ y.args.reverse) (out ++ [y])
        (by
          have e1 : sumE (y.arms.map (·.2)).reverse = sumE (y.arms.map (·.2)) := by unfold sumE; rw [List.map_reverse, List.sum_reverse]
          have e2 : sumE y.args.reverse = sumE y.args := by unfold sumE; rw [List.map_reverse, List.sum_reverse]
          rw [sumE_append, sumE_append, e1, e2]; omega)
        (by
          have e1 : sumE (y.arms.map (·.2)).reverse = sumE (y.arms.map (·.2)) := by unfold sumE; rw [List.map_reverse, List.sum_reverse]
          have e2 : sumE y.args.reverse = sumE y.args := by unfold sumE; rw [List.map_reverse, List.sum_reverse]
          rw [sumE_append, sumE_append, e1, e2]; simp; omega)
        (by
          intro x hx
          simp only [List.mem_append, List.mem_reverse, List.mem_map] at hx
          rcases hx with (hx | ⟨z, hz, rfl⟩) | hx
          · exact h1 x (by simp [hx])
          · exact Nat.le_trans (bk_arms hz).1 hyb
          · have := bk_args hx; omega)
        (by
          intro x hx
          rcases List.mem_append.1 hx with hx | hx
          · exact h2 x hx
          · obtain rfl := List.mem_singleton.1 hx; exact hyb)
      refine ⟨r, ?_, ?_, g3⟩
      · have hlen : ((st' ++ [y]).map Ex.enc).length = st'.length + 1 := by simp
        have e1 : IntKind.i64.wrap (((st'.length + 1 : Nat) : Int) - 1) = (st'.length : Int) := by rw [wrap_i64 (by omega) (by simp only [BIG] at hM; omega)]; omega
        have hg : ((st' ++ [y]).map Ex.enc)[((st'.length : Nat) : Int).toNat]? = some y.enc := by simp
        have ht : ((st' ++ [y]).map Ex.enc).take ((st'.length : Nat) : Int).toNat = st'.map Ex.enc := by simp
        have hsm : small (out.map Ex.enc).length 1 136 = true := small_of (by simp only [BIG] at hM; simp; omega)
        have harm := l98a y (out := out ++ [y]) (by omega) y.arms.length st' (Nat.le_refl _) (by simp only [BIG] at hM ⊢; omega) (by simp only [BIG] at hM ⊢; omega)
        rw [e98_11104, hlen, e1, hg, ht]
        simp only [decide_eq_true (show ((st'.length + 1 : Nat) : Int) > 0 by omega), decide_eq_true (show (0 : Int) ≤ (st'.length : Int) by omega), decide_eq_true (show (st'.length : Int) < ((st'.length + 1 : Nat) : Int) by omega), decide_eq_true (show (st'.length : Int) ≤ ((st'.length + 1 : Nat) : Int) by omega), cond_true, Bool.and_self, Option.bind_some, ex_fits, ex_eta, hsm]
        simp only [ex_0, ex_1, ex_2, ex_3, ex_4, ex_5, ex_6, ex_7, List.length_map]
        rw [wrap_i64 (by omega) (by simp only [BIG] at hM; omega), show out.map Ex.enc ++ [y.enc] = (out ++ [y]).map Ex.enc by simp, harm, List.take_length]
        exact g1
      · have e1 : sumE (y.arms.map (·.2)).reverse = sumE (y.arms.map (·.2)) := by unfold sumE; rw [List.map_reverse, List.sum_reverse]
        have e2 : sumE y.args.reverse = sumE y.args := by unfold sumE; rw [List.map_reverse, List.sum_reverse]
        rw [sumE_append, sumE_append, e1, e2] at g2
        rw [hsum]
        simp at g2; omega
theorem v98 {e : Ex} (hb : bk e.enc ≤ BIG) : ∃ r : List Ex, V 98 [.pv e.enc] = some (.bld 8 (r.map Ex.enc), []) ∧ r.length ≤ BIG ∧ ∀ x, x ∈ r → bk x.enc ≤ BIG := by
  have hs : sumE [e] = bk e.enc := by rw [sumE_cons]; simp [sumE]
  obtain ⟨r, g1, g2, g3⟩ := l98 (M := BIG) (Nat.le_refl _) _ [e] [] (Nat.le_refl _) (by rw [hs]; simpa using hb) (by simpa using hb) (by simp)
  refine ⟨r, ?_, by rw [hs] at g2; simp at g2; omega, g3⟩
  have he := ex_enc e
  rw [he, e98, ← he]
  exact g1
theorem l65b {v : List PV} {arms : List (Pa × Ex)} (hl : arms.length ≤ BIG) (hb : ∀ x, x ∈ arms → bk x.1.enc ≤ BIG) (i2 : Int) : ∀ (l : List (Pa × Ex)) (k : Nat) (i : Int), arms.drop k = l → 0 ≤ i → i + l.length * 1048600 ≤ 4611686018427387904 →
    ∃ j, L65_11014511041114 i v i2 (arms.map eArm) k = L65_11014 j v (IntKind.i64.wrap (i2 + 1)) ∧ i ≤ j ∧ j ≤ i + l.length * 1048600
  | [], k, i, h, _, _ => ⟨i, by rw [e65_11014511041114, endK_map h]; rfl, by omega, by simp⟩
  | x :: l, k, i, h, h0, h1 => by
    have A := atK_map (f := eArm) h (len_max hl)
    have A' := atK h (len_max hl)
    obtain ⟨r, hv, hr⟩ := v99 (hb x (mem_drop h))
    rw [List.length_cons] at h1 ⊢
    simp only [BIG] at hr
    have hw : IntKind.i64.wrap (i + (r.length : Int)) = i + r.length := wrap_i64 (by omega) (by omega)
    obtain ⟨j, g1, g2, g3⟩ := l65b (v := v) hl hb i2 l (k + 1) (i + r.length) A'.drop (by omega) (by omega)
    refine ⟨j, ?_, by omega, by omega⟩
    rw [e65_11014511041114]
    simp only [A.lt, A.ge, A.get, A.next, cond_true, Option.bind_some]
    simp only [arm_fits, arm_pa, cond_true, hv, Option.bind_some, retPV_bld, fits_lstS, toLst_lst, List.length_map, hw]
    exact g1
theorem l65 {P : List Ex} (hl : P.length ≤ BIG) (hb : ∀ x, x ∈ P → bk x.enc ≤ BIG) : ∀ (l : List Ex) (k : Nat) (i : Int), P.drop k = l → 0 ≤ i → i + l.length * 1099561960001 ≤ 2305843009213693952 →
    ∃ j, L65_11014 i (P.map Ex.enc) k = some (.pv (.int .i64 j), []) ∧ i ≤ j ∧ j ≤ i + l.length * 1099561960001
  | [], k, i, h, _, _ => ⟨i, by rw [e65_11014, endK_map h]; rfl, by omega, by simp⟩
  | x :: l, k, i, h, h0, h1 => by
    have A := atK_map (f := Ex.enc) h (len_max hl)
    have A' := atK h (len_max hl)
    have hbx := hb x (mem_drop h)
    have h3 := len_sumA x.arms
    have h4 := bk_ex x
    rw [List.length_cons] at h1 ⊢
    have hbx' := hbx
    simp only [BIG] at hbx'
    have hw : IntKind.i64.wrap (i + 1) = i + 1 := wrap_i64 (by omega) (by omega)
    obtain ⟨j, g1, g2, g3⟩ := l65b (v := P.map Ex.enc) (arms := x.arms) (by omega) (fun y hy => Nat.le_trans (bk_arms hy).2 hbx) (k : Int) x.arms 0 (i + 1) rfl (by omega) (by omega)
    obtain ⟨j', k1, k2, k3⟩ := l65 hl hb l (k + 1) j A'.drop (by omega) (by omega)
    refine ⟨j', ?_, by omega, by omega⟩
    rw [e65_11014]
    simp only [A.lt, A.ge, A.get, cond_true, Option.bind_some]
    simp only [ex_fits, ex_6, cond_true, hw]
    rw [A.next] at g1
    exact g1.trans k1
theorem v65 {e : Ex} (hb : bk e.enc ≤ BIG) : ∃ n : Int, V 65 [.pv e.enc] = some (.pv (.int .i64 n), []) ∧ 0 ≤ n ∧ n ≤ 1153000671257048600 := by
  obtain ⟨r, hv, hr, hx⟩ := v98 hb
  have hr' := hr
  simp only [BIG] at hr'
  obtain ⟨j, g1, g2, g3⟩ := l65 hr hx r 0 0 rfl (by omega) (by omega)
  have he := ex_enc e
  refine ⟨j, ?_, g2, by omega⟩
  rw [he] at hv ⊢
  rw [e65, hv]
  simp only [Option.bind_some, retPV_bld, fits_lstS, toLst_lst, cond_true]
  exact g1

/-! #### The law -/
end Go.AL.S10
