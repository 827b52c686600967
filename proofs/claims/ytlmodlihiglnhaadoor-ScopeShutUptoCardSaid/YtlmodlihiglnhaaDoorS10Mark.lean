/- The marks of types, patterns, expressions: texts that are not too long. -/
import Derived.Test.YtlmodlihiglnhaaDoorS10EG
import Derived.Test.YtlmodlihiglnhaaDoorS10Prog
set_option linter.unusedVariables false
set_option linter.unusedSimpArgs false
set_option maxRecDepth 20000
namespace Go.AL.S10.Sc
open Go Go.AL Go.AL.S10 Go.AL.S10.Fr

def SR (n : Nat) (o : Option Out) : Prop := ∃ s : Str, o = some (.pv (.str s), []) ∧ s.length ≤ n
theorem SR.mono {n m : Nat} {o : Option Out} (h : SR n o) (hm : n ≤ m) : SR m o := by obtain ⟨s, h1, h2⟩ := h; exact ⟨s, h1, by omega⟩
theorem fits_str' (s : Str) : Sh.str.fits (.str s) = true := nrfl rfl
theorem e104 {n : Int} (h : R64 n) : V 104 [.pv (.int .i64 n)] = some (.pv (.str (Lib.itoa n)), []) := by
  have e : V 104 [.pv (.int .i64 n)] = itoaP [.pv (.int .i64 n)] := V_prim pa (g := fun _ => itoaP) rfl _
  rw [e]
  unfold itoaP
  simp only
  rw [decide_eq_true h.1, decide_eq_true h.2]
  rfl
theorem r64_nat {n : Nat} (h : n ≤ BIG) : R64 (n : Int) := by unfold R64; simp only [BIG] at h; omega
theorem l114 {ns : List Int} (hl : ns.length ≤ 1000) (hr : ∀ n, n ∈ ns → R64 n) : ∀ (l : List Int) (k : Nat) (s : Str), ns.drop k = l → s.length + 22 * l.length ≤ 1000000000 → SR (s.length + 22 * l.length) (L114_11014 s (ns.map (.int .i64)) k)
  | [], k, s, h, hb => by rw [e114_11014, endK_map h]; exact ⟨s, rfl, by simp⟩
  | x :: l, k, s, h, hb => by
    have hm : ns.length ≤ maxLen := by simp [maxLen]; omega
    have A := atK_map (f := PV.int .i64) h hm
    have A' := atK h hm
    have hx := hr x (mem_drop h)
    have h4 := e104 hx
    have h5 := Lib.itoa_length_le x hx.1 hx.2
    rw [List.length_cons] at hb ⊢
    have ih := l114 hl hr l (k + 1) (s ++ (Lib.itoa x ++ [44])) A'.drop (by simp; omega)
    rw [e114_11014]
    simp only [A.lt, A.ge, A.get, A.next, cond_true, Option.bind_some]
    simp only [fits_i64, toInt_int, cond_true, h4, Option.bind_some, retPV_pv, fits_str', toStr_str]
    rw [decide_eq_true (show (Lib.itoa x).length + ([44] : Str).length ≤ 2147483648 by simp; omega), decide_eq_true (show s.length + (Lib.itoa x ++ ([44] : List UInt8)).length ≤ 2147483648 by simp; omega)]
    exact ih.mono (by simp; omega)
theorem v114 {ns : List Int} (hl : ns.length ≤ 1000) (hr : ∀ n, n ∈ ns → R64 n) : SR (22 * ns.length) (V 114 [.pv (.lst (ns.map (.int .i64)))]) := by
  rw [e114]
  exact (l114 hl hr ns 0 [] rfl (by simp; omega)).mono (by simp)
theorem l115 {xs : List Str} (hl : bkL (xs.map .str) ≤ BIG) : ∀ (l : List Str) (k : Nat) (s : Str), xs.drop k = l → s.length + 22 * bkL (l.map .str) ≤ 1000000000 → SR (s.length + 22 * bkL (l.map .str)) (L115_11014 s (xs.map .str) k)
  | [], k, s, h, hb => by rw [e115_11014, endK_map h]; exact ⟨s, rfl, by simp⟩
  | x :: l, k, s, h, hb => by
    have hl2 := len_map PV.str xs
    have hm : xs.length ≤ maxLen := len_max (by omega)
    have A := atK_map (f := PV.str) h hm
    have A' := atK h hm
    have hx := bk_mem (List.mem_map.2 ⟨x, mem_drop h, rfl⟩ : PV.str x ∈ xs.map .str)
    simp only [bk] at hx
    obtain ⟨t, h4, h5⟩ := v114 (ns := [(x.length : Int)]) (by simp) (fun n hn => by obtain rfl := List.mem_singleton.1 hn; exact r64_nat (by omega))
    simp only [List.map_cons, List.map_nil, List.length_cons, List.length_nil] at h4 h5
    rw [List.map_cons, bkL_cons] at hb ⊢
    simp only [bk] at hb ⊢
    have ih := l115 hl l (k + 1) (s ++ (t ++ x)) A'.drop (by simp; omega)
    rw [e115_11014]
    simp only [A.lt, A.ge, A.get, A.next, cond_true, Option.bind_some]
    simp only [fits_strS, cond_true, toStr_str, h4, Option.bind_some, retPV_pv, fits_str']
    rw [decide_eq_true (show t.length + x.length ≤ 2147483648 by omega), decide_eq_true (show s.length + (t ++ x).length ≤ 2147483648 by simp; omega)]
    exact ih.mono (by simp; omega)
theorem v115 {xs : List Str} (hl : bkL (xs.map .str) ≤ BIG) : SR (22 * bkL (xs.map .str)) (V 115 [.pv (.lst (xs.map .str))]) := by
  rw [e115]
  exact (l115 hl xs 0 [] rfl (by simp only [BIG] at hl; simp; omega)).mono (by simp)
theorem v115one {x : Str} (hl : x.length ≤ BIG) (hl' : x.length + 1 ≤ BIG) : SR (22 * (x.length + 1)) (V 115 [.pv (.lst [.str x])]) := by
  have := v115 (xs := [x]) (by simp only [List.map_cons, List.map_nil, bkL, bk]; omega)
  simp only [List.map_cons, List.map_nil, bkL, bk] at this
  exact this.mono (by omega)
theorem bk_ty (t : Ty) : bk t.enc = t.name.length + bkL (t.args.map Ty.enc) + 4 := by
  cases t with
  | mk k nm args => rw [enc_mk]; simp only [bk, bkL, Ty.name, Ty.args]; omega
def okM (t : Ty) : Prop := SR (100 * bk t.enc) (V 116 [.pv t.enc])
theorem l116 {args : List Ty} (hl : args.length ≤ BIG) (hs : ∀ t, t ∈ args → okM t) : ∀ (l : List Ty) (k : Nat) (v v1 : Str), args.drop k = l → v.length + v1.length + 100 * bkL (l.map Ty.enc) ≤ 1000000000 → SR (v.length + v1.length + 100 * bkL (l.map Ty.enc)) (L116_11014 v v1 (args.map Ty.enc) k)
  | [], k, v, v1, h, hb => by rw [e116_11014, endK_map h]; exact ⟨_, rfl, by simp⟩
  | x :: l, k, v, v1, h, hb => by
    have A := atK_map (f := Ty.enc) h (len_max hl)
    have A' := atK h (len_max hl)
    obtain ⟨t, h4, h5⟩ := hs x (mem_drop h)
    rw [List.map_cons, bkL_cons] at hb ⊢
    have ih := l116 hl hs l (k + 1) (v ++ v1) t A'.drop (by simp; omega)
    rw [e116_11014]
    simp only [A.lt, A.ge, A.get, A.next, cond_true, Option.bind_some]
    simp only [ty_fits, ty_k, ty_n, ty_a, ty_eta, cond_true, h4, Option.bind_some, retPV_pv, fits_str', toStr_str]
    rw [decide_eq_true (show (v ++ v1).length + t.length ≤ 2147483648 by simp; omega)]
    exact ih.mono (by simp; omega)
theorem v116 {t : Ty} : Okt t → bk t.enc ≤ BIG → okM t := by
  refine Ty.ind (Q := fun t => Okt t → bk t.enc ≤ BIG → okM t) (fun k nm args ih ho hb => ?_) t
  have h1 := bk_ty (.mk k nm args)
  simp only [Ty.name, Ty.args] at h1
  have h2 := len_map Ty.enc args
  obtain ⟨r, a1, a2⟩ := v114 (ns := [k, (args.length : Int)]) (by simp) (fun n hn => by
    simp only [List.mem_cons, List.not_mem_nil, or_false] at hn
    rcases hn with rfl | rfl
    · exact ho.rk
    · exact r64_nat (by omega))
  obtain ⟨r1, b1, b2⟩ := v115one (x := nm) (by omega) (by omega)
  simp only [List.map_cons, List.map_nil, List.length_cons, List.length_nil] at a1 a2
  have hL := l116 (args := args) (by omega) (fun t ht => ih t ht (ho.sub t ht) (by
    have := bk_mem (List.mem_map.2 ⟨t, ht, rfl⟩ : t.enc ∈ args.map Ty.enc); omega)) args 0 r r1 rfl (by simp only [BIG] at hb; omega)
  unfold okM
  rw [h1, enc_mk, e116, List.length_map, a1]
  simp only [Option.bind_some, retPV_pv, fits_str', toStr_str, cond_true, b1]
  rw [decide_eq_true (show r.length + r1.length ≤ 2147483648 by simp only [BIG] at hb; omega)]
  exact hL.mono (by omega)
theorem bk_pa' (p : Pa) : bk p.enc = p.text.length + bkL (p.args.map Pa.enc) + 5 := by
  rw [pa_enc]; simp only [bk, bkL]; omega
def okMp (p : Pa) : Prop := SR (100 * bk p.enc) (V 117 [.pv p.enc])
theorem l117 {args : List Pa} (hl : args.length ≤ BIG) (hs : ∀ t, t ∈ args → okMp t) : ∀ (l : List Pa) (k : Nat) (v v1 : Str), args.drop k = l → v.length + v1.length + 100 * bkL (l.map Pa.enc) ≤ 1000000000 → SR (v.length + v1.length + 100 * bkL (l.map Pa.enc)) (L117_11014 v v1 (args.map Pa.enc) k)
  | [], k, v, v1, h, hb => by rw [e117_11014, endK_map h]; exact ⟨_, rfl, by simp⟩
  | x :: l, k, v, v1, h, hb => by
    have A := atK_map (f := Pa.enc) h (len_max hl)
    have A' := atK h (len_max hl)
    obtain ⟨t, h4, h5⟩ := hs x (mem_drop h)
    rw [List.map_cons, bkL_cons] at hb ⊢
    have ih := l117 hl hs l (k + 1) (v ++ v1) t A'.drop (by simp; omega)
    rw [e117_11014]
    simp only [A.lt, A.ge, A.get, A.next, cond_true, Option.bind_some]
    simp only [pa_fits, pa_eta, cond_true, h4, Option.bind_some, retPV_pv, fits_str', toStr_str]
    rw [decide_eq_true (show (v ++ v1).length + t.length ≤ 2147483648 by simp; omega)]
    exact ih.mono (by simp; omega)
theorem v117 {p : Pa} : Okp p → bk p.enc ≤ BIG → okMp p := by
  refine Pa.ind (Q := fun p => Okp p → bk p.enc ≤ BIG → okMp p) (fun p ih ho hb => ?_) p
  have h1 := bk_pa' p
  have h2 := len_map Pa.enc p.args
  obtain ⟨r, a1, a2⟩ := v114 (ns := [p.kind, p.num, (p.args.length : Int)]) (by simp) (fun n hn => by
    simp only [List.mem_cons, List.not_mem_nil, or_false] at hn
    rcases hn with rfl | rfl | rfl
    · exact ho.rk
    · exact ho.rn
    · exact r64_nat (by omega))
  obtain ⟨r1, b1, b2⟩ := v115one (x := p.text) (by omega) (by omega)
  simp only [List.map_cons, List.map_nil, List.length_cons, List.length_nil] at a1 a2
  have hL := l117 (args := p.args) (by omega) (fun t ht => ih t ht (ho.sub t ht) (by
    have := bk_mem (List.mem_map.2 ⟨t, ht, rfl⟩ : t.enc ∈ p.args.map Pa.enc); omega)) p.args 0 r r1 rfl (by simp only [BIG] at hb; omega)
  unfold okMp
  rw [h1, pa_enc, e117, List.length_map, a1]
  simp only [Option.bind_some, retPV_pv, fits_str', toStr_str, cond_true, b1]
  rw [decide_eq_true (show r.length + r1.length ≤ 2147483648 by simp only [BIG] at hb; omega)]
  exact hL.mono (by omega)
theorem bk_ex3 (e : Ex) : bk e.enc = e.text.length + bkL (e.names.map .str) + bkL e.types + bkL (e.args.map Ex.enc) + bkL (e.arms.map eArm) + 9 := by
  rw [ex_enc]; simp only [bk, bkL]; omega
def okMx (e : Ex) : Prop := SR (200 * bk e.enc) (V 93 [.pv e.enc])
theorem l93c {arms : List (Pa × Ex)} (hl : arms.length ≤ BIG) (hp : ∀ x, x ∈ arms → okMp x.1) (hs : ∀ x, x ∈ arms → okMx x.2) : ∀ (l : List (Pa × Ex)) (k : Nat) (v v1 v2 : Str), arms.drop k = l → v.length + v1.length + v2.length + 200 * bkL (l.map eArm) ≤ 1000000000 → SR (v.length + v1.length + v2.length + 200 * bkL (l.map eArm)) (L93_1111014 v v1 v2 (arms.map eArm) k)
  | [], k, v, v1, v2, h, hb => by rw [e93_1111014, endK_map h]; exact ⟨_, rfl, by simp only [List.length_append]; omega⟩
  | x :: l, k, v, v1, v2, h, hb => by
    have A := atK_map (f := eArm) h (len_max hl)
    have A' := atK h (len_max hl)
    obtain ⟨t, h4, h5⟩ := hp x (mem_drop h)
    obtain ⟨u, h6, h7⟩ := hs x (mem_drop h)
    have g1 := bk_arm x
    have g2 := bk_pos x.1
    rw [List.map_cons, bkL_cons] at hb ⊢
    have ih := l93c hl hp hs l (k + 1) (v ++ v1) v2 (t ++ u) A'.drop (by simp; omega)
    rw [e93_1111014]
    simp only [A.lt, A.ge, A.get, A.next, cond_true, Option.bind_some]
    simp only [arm_fits, arm_ex, arm_pa, cond_true, h4, h6, Option.bind_some, retPV_pv, fits_str', toStr_str]
    rw [decide_eq_true (show t.length + u.length ≤ 2147483648 by omega), decide_eq_true (show ((v ++ v1) ++ v2).length + (t ++ u).length ≤ 2147483648 by simp; omega)]
    exact ih.mono (by simp; omega)
theorem l93b {e : Ex} (hla : e.args.length ≤ BIG) (hlm : e.arms.length ≤ BIG) (ha : ∀ a, a ∈ e.args → okMx a) (hp : ∀ x, x ∈ e.arms → okMp x.1) (hs : ∀ x, x ∈ e.arms → okMx x.2) (k0 n0 : Int) (tx : Str) (ns tys : List PV) (at_ : Int) : ∀ (l : List Ex) (k : Nat) (v v1 v2 : Str), e.args.drop k = l → v.length + v1.length + v2.length + 200 * bkL (l.map Ex.enc) + 200 * bkL (e.arms.map eArm) ≤ 1000000000 → SR (v.length + v1.length + v2.length + 200 * bkL (l.map Ex.enc) + 200 * bkL (e.arms.map eArm)) (L93_111014 v v1 v2 (e.args.map Ex.enc) k k0 n0 tx ns tys (e.arms.map eArm) at_)
  | [], k, v, v1, v2, h, hb => by
    rw [e93_111014, endK_map h]
    simp only [List.map_nil, bkL] at hb ⊢
    exact (l93c hlm hp hs e.arms 0 v v1 v2 rfl (by omega)).mono (by omega)
  | x :: l, k, v, v1, v2, h, hb => by
    have A := atK_map (f := Ex.enc) h (len_max hla)
    have A' := atK h (len_max hla)
    obtain ⟨t, h4, h5⟩ := ha x (mem_drop h)
    rw [List.map_cons, bkL_cons] at hb ⊢
    have ih := l93b hla hlm ha hp hs k0 n0 tx ns tys at_ l (k + 1) (v ++ v1) v2 t A'.drop (by simp; omega)
    rw [e93_111014]
    simp only [A.lt, A.ge, A.get, A.next, cond_true, Option.bind_some]
    simp only [ex_fits, ex_eta, cond_true, h4, Option.bind_some, retPV_pv, fits_str', toStr_str]
    rw [decide_eq_true (show ((v ++ v1) ++ v2).length + t.length ≤ 2147483648 by simp; omega)]
    exact ih.mono (by simp; omega)
theorem l93a {e : Ex} {ts : List Ty} (hlt : ts.length ≤ BIG) (ht : ∀ t, t ∈ ts → okM t) (hla : e.args.length ≤ BIG) (hlm : e.arms.length ≤ BIG) (ha : ∀ a, a ∈ e.args → okMx a) (hp : ∀ x, x ∈ e.arms → okMp x.1) (hs : ∀ x, x ∈ e.arms → okMx x.2) (k0 n0 : Int) (tx : Str) (ns : List PV) (at_ : Int) : ∀ (l : List Ty) (k : Nat) (v v1 v2 : Str), ts.drop k = l → v.length + v1.length + v2.length + 100 * bkL (l.map Ty.enc) + 200 * bkL (e.args.map Ex.enc) + 200 * bkL (e.arms.map eArm) ≤ 1000000000 → SR (v.length + v1.length + v2.length + 100 * bkL (l.map Ty.enc) + 200 * bkL (e.args.map Ex.enc) + 200 * bkL (e.arms.map eArm)) (L93_11014 v v1 v2 (ts.map Ty.enc) k k0 n0 tx ns (e.args.map Ex.enc) (e.arms.map eArm) at_)
  | [], k, v, v1, v2, h, hb => by
    rw [e93_11014, endK_map h]
    simp only [List.map_nil, bkL] at hb ⊢
    exact (l93b hla hlm ha hp hs k0 n0 tx ns (ts.map Ty.enc) at_ e.args 0 v v1 v2 rfl (by omega)).mono (by omega)
  | x :: l, k, v, v1, v2, h, hb => by
    have A := atK_map (f := Ty.enc) h (len_max hlt)
    have A' := atK h (len_max hlt)
    obtain ⟨t, h4, h5⟩ := ht x (mem_drop h)
    rw [List.map_cons, bkL_cons] at hb ⊢
    have ih := l93a hlt ht hla hlm ha hp hs k0 n0 tx ns at_ l (k + 1) (v ++ v1) v2 t A'.drop (by simp; omega)
    rw [e93_11014]
    simp only [A.lt, A.ge, A.get, A.next, cond_true, Option.bind_some]
    simp only [ty_fits, ty_k, ty_n, ty_a, ty_eta, cond_true, h4, Option.bind_some, retPV_pv, fits_str', toStr_str]
    rw [decide_eq_true (show ((v ++ v1) ++ v2).length + t.length ≤ 2147483648 by simp; omega)]
    exact ih.mono (by simp; omega)
theorem v93 {e : Ex} : Okx e → bk e.enc ≤ BIG → okMx e := by
  induction e using Ex.ind with
  | h e i1 i2 =>
    intro ho hb
    have h1 := bk_ex3 e
    obtain ⟨ts, hts, _, _, hto⟩ := ho.tys
    rw [hts] at h1
    have n1 := len_map PV.str e.names
    have n2 := len_map Ty.enc ts
    have n3 := len_map Ex.enc e.args
    have n4 := len_map eArm e.arms
    have ht : ∀ t, t ∈ ts → okM t := fun t ht => v116 (hto t ht) (by
      have := bk_mem (List.mem_map.2 ⟨t, ht, rfl⟩ : t.enc ∈ ts.map Ty.enc); omega)
    have ha : ∀ a, a ∈ e.args → okMx a := fun a ha => i1 a ha (ho.sub a ha) (by have := bk_args ha; omega)
    have hp : ∀ x, x ∈ e.arms → okMp x.1 := fun x hx => v117 (ho.pas x hx) (by have := (bk_arms hx).2; omega)
    have hs : ∀ x, x ∈ e.arms → okMx x.2 := fun x hx => i2 x hx (ho.exs x hx) (by have := (bk_arms hx).1; omega)
    obtain ⟨r, a1, a2⟩ := v114 (ns := [e.kind, e.num, (e.names.length : Int), (ts.length : Int), (e.args.length : Int), (e.arms.length : Int)]) (by simp) (fun n hn => by
      simp only [List.mem_cons, List.not_mem_nil, or_false] at hn
      rcases hn with rfl | rfl | rfl | rfl | rfl | rfl
      · exact ho.rk
      · exact ho.rn
      all_goals exact r64_nat (by omega))
    obtain ⟨r1, b1, b2⟩ := v115one (x := e.text) (by omega) (by omega)
    obtain ⟨r2, c1, c2⟩ := v115 (xs := e.names) (by omega)
    simp only [List.map_cons, List.map_nil, List.length_cons, List.length_nil] at a1 a2
    have hL := l93a (by omega) ht (by omega) (by omega) ha hp hs e.kind e.num e.text (e.names.map .str) e.at_ ts 0 r r1 r2 rfl (by simp only [BIG] at hb; omega)
    unfold okMx
    rw [h1, ex_enc, hts, e93, List.length_map, List.length_map, List.length_map, List.length_map, a1]
    simp only [Option.bind_some, retPV_pv, fits_str', toStr_str, cond_true, b1, c1]
    rw [decide_eq_true (show r.length + r1.length ≤ 2147483648 by simp only [BIG] at hb; omega)]
    simp only [cond_true]
    rw [decide_eq_true (show (r ++ r1).length + r2.length ≤ 2147483648 by simp only [BIG] at hb; simp; omega)]
    exact hL.mono (by omega)
end Go.AL.S10.Sc
