/- Clearing an expression's places: the same expression. -/
import Derived.Test.YtlmodlihiglnhaaS2Tree
set_option linter.unusedVariables false
set_option linter.unusedSimpArgs false
namespace Go.AL.S2
open Go Go.AL

/-! #### The same as itself -/
theorem bk_ty (t : Ty) : (t.args.map fun x => bk x.enc).sum + 2 ≤ bk t.enc := by
  cases t
  rw [enc_mk]
  simp only [bk, bkL, bkL_map, Ty.args]
  omega
theorem bk_tyarg {t u : Ty} (h : u ∈ t.args) : bk u.enc + 2 ≤ bk t.enc := by
  have h1 := bk_ty t
  have : bk u.enc ≤ (t.args.map fun x => bk x.enc).sum := le_sum (List.mem_map.2 ⟨u, h, rfl⟩)
  omega
theorem len_sumT (l : List Ty) : l.length ≤ (l.map fun x => bk x.enc).sum := by
  induction l with
  | nil => simp
  | cons t l ih => have := bk_ty t; simp only [List.map_cons, List.sum_cons, List.length_cons]; omega
theorem ty_enc (t : Ty) : t.enc = .agg [.int .i64 t.kind, .str t.name, .lst (t.args.map Ty.enc)] := by cases t; exact enc_mk _ _ _
def tt : Option Out := some (.pv (.bool true), [])
theorem l45 {a : List Ty} (ha : a.length ≤ maxLen) (hs : ∀ t, t ∈ a → V 21 [.pv t.enc, .pv t.enc] = tt) : ∀ (l : List Ty) (k : Nat), a.drop k = l → L45_11014 (a.map Ty.enc) 21 [] (a.map Ty.enc) k = tt
  | [], k, h => by rw [e45_11014, endK_map h]; rfl
  | x :: l, k, h => by
    have A := atK_map (f := Ty.enc) h ha
    have A' := atK h ha
    have hx := hs x (mem_drop h)
    unfold tt at hx
    have ih := l45 ha hs l (k + 1) A'.drop
    rw [e45_11014]
    simp only [A.lt, A.ge, A.get, A.next, cond_true, Option.bind_some]
    simp only [ty_fits, ty_k, ty_n, ty_a, ty_eta, cond_true, List.append_nil, List.map_cons, List.map_nil, hx, Option.bind_some, retPV_pv, fits_bool, toBool_bool]
    exact ih
theorem v45 {a : List Ty} (ha : a.length ≤ maxLen) (hs : ∀ t, t ∈ a → V 21 [.pv t.enc, .pv t.enc] = tt) : V 45 [.pv (.lst (a.map Ty.enc)), .pv (.lst (a.map Ty.enc)), .pv (.fn 21 [])] = tt := by
  rw [e45, show (((a.map Ty.enc).length : Int) != ((a.map Ty.enc).length : Int)) = false from by simp]
  exact l45 ha hs a 0 rfl
theorem v21 {t : Ty} (hb : bk t.enc ≤ BIG) : V 21 [.pv t.enc, .pv t.enc] = tt := by
  revert hb
  refine Ty.ind (Q := fun t => bk t.enc ≤ BIG → V 21 [.pv t.enc, .pv t.enc] = tt) (fun k nm args ih hb => ?_) t
  have h1 := bk_ty (.mk k nm args)
  have h2 := len_sumT args
  simp only [Ty.args] at h1
  have h45 := v45 (a := args) (len_max (by omega)) fun u hu => ih u hu (by have := bk_tyarg (t := .mk k nm args) (u := u) hu; omega)
  unfold tt at h45
  rw [enc_mk, e21, h45]
  simp only [beq_self_eq_true, cond_true]
  rfl
theorem l40 {a : List Str} (ha : a.length ≤ maxLen) : ∀ (l : List Str) (k : Nat), a.drop k = l → L40_11014 (a.map .str) (a.map .str) k = tt
  | [], k, h => by rw [e40_11014, endK_map h]; rfl
  | x :: l, k, h => by
    have A := atK_map (f := PV.str) h ha
    have A' := atK h ha
    have ih := l40 ha l (k + 1) A'.drop
    rw [e40_11014]
    simp only [A.lt, A.ge, A.get, A.next, cond_true, Option.bind_some]
    simp only [fits_strS, toStr_str, cond_true, beq_self_eq_true, Bool.not_true, cond_false]
    exact ih
theorem v40 {a : List Str} (ha : a.length ≤ maxLen) : V 40 [.pv (.lst (a.map .str)), .pv (.lst (a.map .str))] = tt := by
  rw [e40, show (((a.map PV.str).length : Int) != ((a.map PV.str).length : Int)) = false from by simp]
  exact l40 ha a 0 rfl
theorem l113 {a : List Pa} (ha : a.length ≤ maxLen) (hs : ∀ t, t ∈ a → V 78 [.pv t.enc, .pv t.enc] = tt) : ∀ (l : List Pa) (k : Nat), a.drop k = l → L113_11014 (a.map Pa.enc) 78 [] (a.map Pa.enc) k = tt
  | [], k, h => by rw [e113_11014, endK_map h]; rfl
  | x :: l, k, h => by
    have A := atK_map (f := Pa.enc) h ha
    have A' := atK h ha
    have hx := hs x (mem_drop h)
    unfold tt at hx
    have ih := l113 ha hs l (k + 1) A'.drop
    rw [e113_11014]
    simp only [A.lt, A.ge, A.get, A.next, cond_true, Option.bind_some]
    simp only [pa_fits, pa_eta, cond_true, List.append_nil, List.map_cons, List.map_nil, hx, Option.bind_some, retPV_pv, fits_bool, toBool_bool]
    exact ih
theorem v78 {p : Pa} (hb : bk p.enc ≤ BIG) : V 78 [.pv p.enc, .pv p.enc] = tt := by
  revert hb
  refine Pa.ind (Q := fun p => bk p.enc ≤ BIG → V 78 [.pv p.enc, .pv p.enc] = tt) (fun p ih hb => ?_) p
  have h1 := bk_pa p
  have h2 := len_sumP p.args
  have h113 : V 113 [.pv (.lst (p.args.map Pa.enc)), .pv (.lst (p.args.map Pa.enc)), .pv (.fn 78 [])] = some (.pv (.bool true), []) := by
    rw [e113, show (((p.args.map Pa.enc).length : Int) != ((p.args.map Pa.enc).length : Int)) = false from by simp]
    exact l113 (len_max (by omega)) (fun q hq => ih q hq (by
      have : bk q.enc ≤ sumP p.args := le_sum (List.mem_map.2 ⟨q, hq, rfl⟩)
      omega)) p.args 0 rfl
  rw [pa_enc, e78, h113]
  simp only [beq_self_eq_true, cond_true]
  rfl

/-! #### Copies -/
theorem v42 {l : List Str} (h : l.length ≤ BIG) : V 42 [.pv (.lst (l.map .str))] = some (.bld 1 (l.map .str), []) := by
  rw [e42]
  unfold cloneOut
  have h1 : headOk 1 (l.map PV.str) = true := by cases l <;> rfl
  have h2 : small 0 (l.map PV.str).length 16 = true := small_of (by simp only [BIG] at h; simp; omega)
  rw [h1, h2]
  rfl
theorem l43 {a : List Ty} (ha : a.length ≤ BIG) (hs : ∀ t, t ∈ a → V 43 [.pv (.lst (t.args.map Ty.enc))] = some (.bld 3 (t.args.map Ty.enc), [])) : ∀ (l : List Ty) (k : Nat) (acc : List Ty), a.drop k = l → acc.length + l.length ≤ BIG → L43_11014 (acc.map Ty.enc) (a.map Ty.enc) k = some (.bld 3 ((acc ++ l).map Ty.enc), [])
  | [], k, acc, h, _ => by rw [e43_11014, endK_map h]; simp
  | x :: l, k, acc, h, hac => by
    have A := atK_map (f := Ty.enc) h (len_max ha)
    have A' := atK h (len_max ha)
    have hx := hs x (mem_drop h)
    have ih := l43 ha hs l (k + 1) (acc ++ [x]) A'.drop (by simp at hac ⊢; omega)
    have sm : small (acc.map Ty.enc).length 1 48 = true := small_of (by simp only [BIG] at hac; simp at hac ⊢; omega)
    rw [e43_11014]
    simp only [A.lt, A.ge, A.get, A.next, cond_true, Option.bind_some]
    simp only [ty_fits, ty_k, ty_n, ty_a, cond_true, hx, Option.bind_some, retPV_bld, fits_lstS, toLst_lst, sm]
    simp only [ty_eta]
    rw [show acc.map Ty.enc ++ [x.enc] = (acc ++ [x]).map Ty.enc by simp, ih]
    simp
theorem v43 : ∀ (N : Nat) (l : List Ty), (l.map fun x => bk x.enc).sum ≤ N → N ≤ BIG → V 43 [.pv (.lst (l.map Ty.enc))] = some (.bld 3 (l.map Ty.enc), []) := by
  intro N
  induction N using Nat.strongRecOn with
  | _ N ih =>
    intro l hl hN
    have h2 := len_sumT l
    rw [e43]
    exact l43 (by omega) (fun t ht => by
      have h1 := bk_ty t
      have h3 : bk t.enc ≤ (l.map fun x => bk x.enc).sum := le_sum (List.mem_map.2 ⟨t, ht, rfl⟩)
      exact ih (N - 2) (by omega) t.args (by omega) (by omega)) l 0 [] rfl (by simp; omega)
theorem l44 {p : Pa} {a : List Pa} (ha : a.length ≤ BIG) (hs : ∀ t, t ∈ a → V 44 [.pv t.enc] = some (.pv t.enc, [])) : ∀ (l : List Pa) (k : Nat) (acc : List Pa), a.drop k = l → acc.length + l.length ≤ BIG → L44_11014 (acc.map Pa.enc) (a.map Pa.enc) k p.kind p.num p.text = some (.pv (.agg [.int .i64 p.kind, .int .i64 p.num, .str p.text, .lst ((acc ++ l).map Pa.enc)]), [])
  | [], k, acc, h, _ => by rw [e44_11014, endK_map h]; simp
  | x :: l, k, acc, h, hac => by
    have A := atK_map (f := Pa.enc) h (len_max ha)
    have A' := atK h (len_max ha)
    have hx := hs x (mem_drop h)
    have ih := l44 (p := p) ha hs l (k + 1) (acc ++ [x]) A'.drop (by simp at hac ⊢; omega)
    have sm : small (acc.map Pa.enc).length 1 56 = true := small_of (by simp only [BIG] at hac; simp at hac ⊢; omega)
    rw [e44_11014]
    simp only [A.lt, A.ge, A.get, A.next, cond_true, Option.bind_some]
    simp only [pa_fits, pa_eta, cond_true, hx, Option.bind_some, retPV_pv, sm]
    rw [show acc.map Pa.enc ++ [x.enc] = (acc ++ [x]).map Pa.enc by simp, ih]
    simp
theorem v44 {p : Pa} (hb : bk p.enc ≤ BIG) : V 44 [.pv p.enc] = some (.pv p.enc, []) := by
  revert hb
  refine Pa.ind (Q := fun p => bk p.enc ≤ BIG → V 44 [.pv p.enc] = some (.pv p.enc, [])) (fun p ih hb => ?_) p
  have h1 := bk_pa p
  have h2 := len_sumP p.args
  have h := l44 (p := p) (a := p.args) (by omega) (fun q hq => ih q hq (by
    have : bk q.enc ≤ sumP p.args := le_sum (List.mem_map.2 ⟨q, hq, rfl⟩)
    omega)) p.args 0 [] rfl (by simp; omega)
  rw [pa_enc, e44]
  exact h

/-! #### Clearing -/
def Rel (c a : Ex) : Prop := V 16 [.pv c.enc, .pv a.enc] = tt ∧ bk c.enc = bk a.enc
def Clr (a c : Ex) : Prop := V 15 [.pv a.enc] = some (.pv c.enc, []) ∧ c.at_ = 0 ∧ Rel c a
inductive All2 {α β : Type} (R : α → β → Prop) : List α → List β → Prop where
  | nil : All2 R [] []
  | cons {a : α} {b : β} {l : List α} {m : List β} : R a b → All2 R l m → All2 R (a :: l) (b :: m)
theorem All2.len {α β : Type} {R : α → β → Prop} {l : List α} {m : List β} (h : All2 R l m) : l.length = m.length := by
  induction h with
  | nil => rfl
  | cons _ _ ih => simp [ih]
theorem All2.at' {α β : Type} {R : α → β → Prop} {l : List α} {m : List β} (h : All2 R l m) : ∀ {k : Nat} {a : α}, l[k]? = some a → ∃ b, m[k]? = some b ∧ R a b := by
  induction h with
  | nil => intro k a h; simp at h
  | cons h1 _ ih =>
    intro k a h
    cases k with
    | zero => simp at h; subst h; exact ⟨_, rfl, h1⟩
    | succ k => exact ih (by simpa using h)
def RelA (d x : Pa × Ex) : Prop := d.1 = x.1 ∧ Rel d.2 x.2
theorem sumE_rel {cs as_ : List Ex} (h : All2 Rel cs as_) : sumE cs = sumE as_ := by
  induction h with
  | nil => rfl
  | cons h1 _ ih => rw [sumE_cons, sumE_cons, h1.2, ih]
theorem sumA_rel {cs as_ : List (Pa × Ex)} (h : All2 RelA cs as_) : sumA cs = sumA as_ := by
  induction h with
  | nil => rfl
  | cons h1 _ ih =>
    rw [sumA_cons, sumA_cons, ih]
    rename_i a b _ _ _
    have e1 := bk_arm a
    have e2 := bk_arm b
    rw [h1.1, h1.2.2] at e1
    omega
theorem l15a {e : Ex} {arms : List PV} {v v1 : List PV} (hl : e.args.length ≤ BIG) (hs : ∀ a, a ∈ e.args → ∃ c, Clr a c) : ∀ (l : List Ex) (k : Nat) (acc : List Ex), e.args.drop k = l → acc.length + l.length ≤ BIG →
    ∃ cs, All2 Rel cs l ∧ L15_1111014 (acc.map Ex.enc) (e.args.map Ex.enc) k e.kind e.num e.text v v1 arms = L15_111111014 ((acc ++ cs).map Ex.enc) [] arms 0 e.kind e.num e.text v v1 (e.args.map Ex.enc)
  | [], k, acc, h, _ => ⟨[], .nil, by rw [e15_1111014, endK_map h]; simp⟩
  | x :: l, k, acc, h, hac => by
    have A := atK_map (f := Ex.enc) h (len_max hl)
    have A' := atK h (len_max hl)
    obtain ⟨c, hc, _, hr⟩ := hs x (mem_drop h)
    obtain ⟨cs, g1, g2⟩ := l15a (arms := arms) (v := v) (v1 := v1) hl hs l (k + 1) (acc ++ [c]) A'.drop (by simp at hac ⊢; omega)
    have sm : small (acc.map Ex.enc).length 1 136 = true := small_of (by simp only [BIG] at hac; simp at hac ⊢; omega)
    refine ⟨c :: cs, .cons hr g1, ?_⟩
    rw [e15_1111014]
    simp only [A.lt, A.ge, A.get, A.next, cond_true, Option.bind_some]
    simp only [ex_fits, ex_eta, cond_true, hc, Option.bind_some, retPV_pv, sm]
    rw [show acc.map Ex.enc ++ [c.enc] = (acc ++ [c]).map Ex.enc by simp, g2]
    simp
theorem pa_ex (p : Pa) (c : Ex) : PV.agg [.int .i64 (p.enc.c 0).toInt, .int .i64 (p.enc.c 1).toInt, .str (p.enc.c 2).toStr, .lst (p.enc.c 3).toLst, .int .i64 (c.enc.c 0).toInt, .int .i64 (c.enc.c 1).toInt, .str (c.enc.c 2).toStr, .lst (c.enc.c 3).toLst, .lst (c.enc.c 4).toLst, .lst (c.enc.c 5).toLst, .lst (c.enc.c 6).toLst, .int .i64 (c.enc.c 7).toInt] = eArm (p, c) := by rw [arm_enc, pa_enc, ex_enc]; rfl
theorem l15b {e : Ex} {l1 v v1 as_ : List PV} (hb : bk e.enc ≤ BIG) (hl : e.arms.length ≤ BIG) (hs : ∀ x, x ∈ e.arms → ∃ c, Clr x.2 c) : ∀ (l : List (Pa × Ex)) (k : Nat) (acc : List (Pa × Ex)), e.arms.drop k = l → acc.length + l.length ≤ BIG →
    ∃ cs, All2 RelA cs l ∧ L15_111111014 l1 (acc.map eArm) (e.arms.map eArm) k e.kind e.num e.text v v1 as_ = some (.pv (.agg [.int .i64 e.kind, .int .i64 e.num, .str e.text, .lst v, .lst v1, .lst l1, .lst ((acc ++ cs).map eArm), .int .i64 0]), [])
  | [], k, acc, h, _ => ⟨[], .nil, by rw [e15_111111014, endK_map h]; simp⟩
  | x :: l, k, acc, h, hac => by
    have A := atK_map (f := eArm) h (len_max hl)
    have A' := atK h (len_max hl)
    obtain ⟨c, hc, _, hr⟩ := hs x (mem_drop h)
    have hp := v44 (p := x.1) (Nat.le_trans (bk_arms (mem_drop h)).2 hb)
    obtain ⟨cs, g1, g2⟩ := l15b (l1 := l1) (v := v) (v1 := v1) (as_ := as_) hb hl hs l (k + 1) (acc ++ [(x.1, c)]) A'.drop (by simp at hac ⊢; omega)
    have sm : small (acc.map eArm).length 1 192 = true := small_of (by simp only [BIG] at hac; simp at hac ⊢; omega)
    refine ⟨(x.1, c) :: cs, .cons ⟨rfl, hr⟩ g1, ?_⟩
    rw [e15_111111014]
    simp only [A.lt, A.ge, A.get, A.next, cond_true, Option.bind_some]
    simp only [arm_fits, arm_ex, arm_pa, cond_true, hp, hc, pa_fits, ex_fits, Option.bind_some, retPV_pv, sm, pa_ex]
    rw [show acc.map eArm ++ [eArm (x.1, c)] = (acc ++ [(x.1, c)]).map eArm by simp, g2]
    simp
theorem l46 {cs as_ : List Ex} (hl : cs.length ≤ maxLen) (h2 : All2 Rel cs as_) : ∀ (l : List Ex) (k : Nat), cs.drop k = l → L46_11014 (as_.map Ex.enc) 16 [] (cs.map Ex.enc) k = tt
  | [], k, h => by rw [e46_11014, endK_map h]; rfl
  | x :: l, k, h => by
    have A := atK_map (f := Ex.enc) h hl
    have A' := atK h hl
    obtain ⟨y, hy, hr⟩ := h2.at' A'.get'
    have hv := hr.1
    unfold tt at hv
    have gy : (as_.map Ex.enc)[((k : Nat) : Int).toNat]? = some y.enc := by simp [hy]
    have ih := l46 hl h2 l (k + 1) A'.drop
    rw [e46_11014]
    simp only [A.lt, A.ge, A.get, A.next, gy, cond_true, Option.bind_some]
    simp only [ex_fits, ex_eta, cond_true, List.append_nil, List.map_cons, List.map_nil, hv, Option.bind_some, retPV_pv, fits_bool, toBool_bool]
    exact ih
theorem arm_eta (x : Pa × Ex) : PV.agg [.int .i64 ((eArm x).c 0).toInt, .int .i64 ((eArm x).c 1).toInt, .str ((eArm x).c 2).toStr, .lst ((eArm x).c 3).toLst, .int .i64 ((eArm x).c 4).toInt, .int .i64 ((eArm x).c 5).toInt, .str ((eArm x).c 6).toStr, .lst ((eArm x).c 7).toLst, .lst ((eArm x).c 8).toLst, .lst ((eArm x).c 9).toLst, .lst ((eArm x).c 10).toLst, .int .i64 ((eArm x).c 11).toInt] = eArm x := by rw [arm_enc]; rfl
theorem v48 {d x : Pa × Ex} (h : RelA d x) (hb : bk x.1.enc ≤ BIG) : V 48 [.pv (eArm d), .pv (eArm x)] = tt := by
  have h78 := v78 hb
  have h16 := h.2.1
  unfold tt at h78 h16
  have k := e48 d.1.kind d.1.num d.1.text (d.1.args.map Pa.enc) d.2.kind d.2.num d.2.text (d.2.names.map .str) (d.2.types.map Ty.enc) (d.2.args.map Ex.enc) (d.2.arms.map eArm) d.2.at_ x.1.kind x.1.num x.1.text (x.1.args.map Pa.enc) x.2.kind x.2.num x.2.text (x.2.names.map .str) (x.2.types.map Ty.enc) (x.2.args.map Ex.enc) (x.2.arms.map eArm) x.2.at_
  rw [← arm_enc d, ← arm_enc x, ← pa_enc d.1, ← pa_enc x.1, ← ex_enc d.2, ← ex_enc x.2, h.1, h78, h16] at k
  rw [k]
  rfl
theorem l47 {cs as_ : List (Pa × Ex)} (hl : cs.length ≤ maxLen) (h2 : All2 RelA cs as_) (hb : ∀ x, x ∈ as_ → bk x.1.enc ≤ BIG) : ∀ (l : List (Pa × Ex)) (k : Nat), cs.drop k = l → L47_11014 (as_.map eArm) 48 [] (cs.map eArm) k = tt
  | [], k, h => by rw [e47_11014, endK_map h]; rfl
  | x :: l, k, h => by
    have A := atK_map (f := eArm) h hl
    have A' := atK h hl
    obtain ⟨y, hy, hr⟩ := h2.at' A'.get'
    have hv := v48 hr (hb y (List.mem_of_getElem? hy))
    unfold tt at hv
    have gy : (as_.map eArm)[((k : Nat) : Int).toNat]? = some (eArm y) := by simp [hy]
    have ih := l47 hl h2 hb l (k + 1) A'.drop
    rw [e47_11014]
    simp only [A.lt, A.ge, A.get, A.next, gy, cond_true, Option.bind_some]
    simp only [arm_fits, arm_eta, cond_true, List.append_nil, List.map_cons, List.map_nil, hv, Option.bind_some, retPV_pv, fits_bool, toBool_bool]
    exact ih
theorem bk_exs (e : Ex) : e.names.length + (e.types.map fun x => bk x.enc).sum + 2 ≤ bk e.enc := by
  rw [ex_enc]
  have h : ∀ l : List Str, l.length ≤ bkL (l.map .str) := by
    intro l
    induction l with
    | nil => simp
    | cons s l ih => simp only [List.map_cons, bkL, bk, List.length_cons]; omega
  have := h e.names
  have h2 : bkL (e.types.map Ty.enc) = (e.types.map fun x => bk x.enc).sum := bkL_map _ _
  simp only [bk, bkL, h2]
  omega
theorem clear {e : Ex} (hb : bk e.enc ≤ BIG) : ∃ c, Clr e c := by
  revert hb
  refine Ex.indP (Q := fun e => bk e.enc ≤ BIG → ∃ c, Clr e c) (fun e ih hb => ?_) e
  have h1 := bk_ex e
  have h2 := len_sumE e.args
  have h3 := len_sumA e.arms
  have h4 := bk_exs e
  have hsub : ∀ a, a ∈ parts e → ∃ c, Clr a c := fun a ha => ih a ha (by have := mem_parts ha; omega)
  have ha : ∀ a, a ∈ e.args → ∃ c, Clr a c := fun a ha => hsub a (by simp [parts, ha])
  have hm : ∀ x, x ∈ e.arms → ∃ c, Clr x.2 c := fun x hx => hsub x.2 (by unfold parts; exact List.mem_append_right _ (List.mem_map.2 ⟨x, hx, rfl⟩))
  have h42 := v42 (l := e.names) (by omega)
  have h43 := v43 _ e.types (Nat.le_refl _) (by omega)
  obtain ⟨cs, a1, a2⟩ := l15a (arms := e.arms.map eArm) (v := e.names.map .str) (v1 := e.types.map Ty.enc) (by omega) ha e.args 0 [] rfl (by simp; omega)
  obtain ⟨ds, b1, b2⟩ := l15b (e := e) (l1 := (([] : List Ex) ++ cs).map Ex.enc) (v := e.names.map .str) (v1 := e.types.map Ty.enc) (as_ := e.args.map Ex.enc) hb (by omega) hm e.arms 0 [] rfl (by simp; omega)
  have hc : (Ex.mk e.kind e.num e.text e.names e.types cs ds 0).enc = .agg [.int .i64 e.kind, .int .i64 e.num, .str e.text, .lst (e.names.map .str), .lst (e.types.map Ty.enc), .lst (cs.map Ex.enc), .lst (ds.map eArm), .int .i64 0] := ex_enc _
  refine ⟨.mk e.kind e.num e.text e.names e.types cs ds 0, ?_, rfl, ?_, ?_⟩
  · have k := e15 e.kind e.num e.text (e.names.map .str) (e.types.map Ty.enc) (e.args.map Ex.enc) (e.arms.map eArm) e.at_
    rw [← ex_enc e, h42, h43] at k
    rw [k]
    simp only [Option.bind_some, retPV_bld, fits_lstS, toLst_lst, cond_true]
    rw [List.map_nil, show ((0 : Nat) : Int) = 0 from rfl] at a2 b2
    rw [a2, b2, hc]
    simp only [List.nil_append]
  · have h40 := v40 (a := e.names) (len_max (by omega))
    have hty := len_sumT e.types
    have h45 := v45 (a := e.types) (len_max (by omega)) fun t ht => v21 (by
      have : bk t.enc ≤ (e.types.map fun x => bk x.enc).sum := le_sum (List.mem_map.2 ⟨t, ht, rfl⟩)
      omega)
    have h46 : V 46 [.pv (.lst (cs.map Ex.enc)), .pv (.lst (e.args.map Ex.enc)), .pv (.fn 16 [])] = tt := by
      rw [e46, show (((cs.map Ex.enc).length : Int) != ((e.args.map Ex.enc).length : Int)) = false from by simp [a1.len]]
      exact l46 (by rw [a1.len]; exact len_max (by omega)) a1 cs 0 rfl
    have h47 : V 47 [.pv (.lst (ds.map eArm)), .pv (.lst (e.arms.map eArm)), .pv (.fn 48 [])] = tt := by
      rw [e47, show (((ds.map eArm).length : Int) != ((e.arms.map eArm).length : Int)) = false from by simp [b1.len]]
      exact l47 (by rw [b1.len]; exact len_max (by omega)) b1 (fun x hx => Nat.le_trans (bk_arms hx).2 hb) ds 0 rfl
    unfold tt at h40 h45 h46 h47 ⊢
    rw [hc, ex_enc e, e16, h40, h45, h46, h47]
    simp only [beq_self_eq_true, cond_true, Option.bind_some, retPV_pv, fits_bool, toBool_bool]
  · have e1 := sumE_rel a1
    have e2 := sumA_rel b1
    unfold sumE at e1
    unfold sumA at e2
    rw [hc, ex_enc e]
    simp only [bk, bkL, bkL_map, e1, e2]

/-! #### The law -/
theorem v14 : V 14 [] = some (.pv (.bool true), []) := (V_A pa 14 []).le 40 _ (by kernel_rfl)
theorem law4 {e : Ex} (hb : bk e.enc ≤ BIG) : V 4 [.pv e.enc] = some (.pv (.bool true), []) := by
  obtain ⟨n, h13, _⟩ := v13 hb
  obtain ⟨c, c1, c2, c3, c4⟩ := clear hb
  obtain ⟨d, d1, d2, d3, d4⟩ := clear (e := c) (by omega)
  unfold tt at c3 d3
  have k := e4 e.kind e.num e.text (e.names.map .str) (e.types.map Ty.enc) (e.args.map Ex.enc) (e.arms.map eArm) e.at_
  rw [← ex_enc e, h13, v14, c1] at k
  rw [k]
  simp only [Option.bind_some, retPV_pv, fits_i64, toInt_int, fits_bool, toBool_bool, cond_true, Bool.not_true, cond_false, ex_fits, ex_eta, c3, d1, d3]
  simp only [ex_7, c2]
  cases decide (n > 400) <;> rfl
end Go.AL.S2
