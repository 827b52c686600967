/- Schemes: closing a type. -/
import Derived.Test.YtlmodlihiglnhaaDoorS5UnF
import Derived.Test.YtlmodlihiglnhaaDoorS5Sch
set_option linter.unusedVariables false
set_option linter.unusedSimpArgs false
namespace Go.AL.S5.Un
open Go Go.AL Go.AL.S5

def pl (ns : List Str) (t : Ty) : PV := .agg [.lst (ns.map .str), .int .i64 t.kind, .str t.name, .lst (t.args.map Ty.enc)]
theorem pl_mk (ns : List Str) (t : Ty) : PV.agg [.lst (ns.map .str), .int .i64 t.kind, .str t.name, .lst (t.args.map Ty.enc)] = pl ns t := nrfl rfl
theorem pl_fits (ns : List Str) (t : Ty) : (Sh.agg [Sh.lst, Sh.int .i64, Sh.str, Sh.lst]).fits (pl ns t) = true := nrfl rfl
theorem pl_0 (ns : List Str) (t : Ty) : ((pl ns t).c 0).toLst = ns.map .str := nrfl rfl
theorem pl_1 (ns : List Str) (t : Ty) : ((pl ns t).c 1).toInt = t.kind := nrfl rfl
theorem pl_2 (ns : List Str) (t : Ty) : ((pl ns t).c 2).toStr = t.name := nrfl rfl
theorem pl_3 (ns : List Str) (t : Ty) : ((pl ns t).c 3).toLst = t.args.map Ty.enc := nrfl rfl
theorem lst_fits (xs : List PV) : Sh.lst.fits (.lst xs) = true := nrfl rfl
theorem lst_lst (xs : List PV) : (PV.lst xs).toLst = xs := nrfl rfl
theorem str_fits (s : Str) : Sh.str.fits (.str s) = true := nrfl rfl
theorem str_str (s : Str) : (PV.str s).toStr = s := nrfl rfl
def nl (t : Ty) : PV := .agg [.nils, .int .i64 t.kind, .str t.name, .lst (t.args.map Ty.enc)]
theorem nl_fits (t : Ty) : (Sh.agg [Sh.lst, Sh.int .i64, Sh.str, Sh.lst]).fitsNil (nl t) = true := nrfl rfl
theorem nl_1 (t : Ty) : ((nl t).c 1).toInt = t.kind := nrfl rfl
theorem nl_2 (t : Ty) : ((nl t).c 2).toStr = t.name := nrfl rfl
theorem nl_3 (t : Ty) : ((nl t).c 3).toLst = t.args.map Ty.enc := nrfl rfl

theorem v14 {t : Ty} (ht : Okt t) : V 14 [.pv t.enc] = some (.pv (nl t), []) := by
  have h0 := e14 t.kind t.name (t.args.map Ty.enc)
  rw [ty_eta, v39 ht] at h0
  rw [h0]
  simp only [Option.bind_some, retPV_pv, ty_fits, ty_k, ty_n, ty_a, cond_true]
  rfl
def out (ns : List Str) (n : Str) : Bool := !has ns n
theorem out_nil (r : List Str) : r.filter (out []) = r := List.filter_eq_self.2 fun n _ => by simp [out, has]
theorem out_self (r : List Str) : r.filter (out r) = [] := List.filter_eq_nil_iff.2 fun n hn => by simp [out, has, hn]
theorem filter_len (r : List Str) (f : Str → Bool) (k : Nat) : ((r.take k).filter f).length ≤ r.length := Nat.le_trans (List.length_filter_le _ _) (by simp; omega)
theorem l15 {ns r : List Str} (hn : ns.length ≤ maxLen) (hr : r.length ≤ BIG) (t : Ty) : ∀ (rest : List Str) (k : Nat), r.drop k = rest →
    L15_11014 (((r.take k).filter (out ns)).map .str) (r.map .str) k (ns.map .str) t.kind t.name (t.args.map Ty.enc) = some (.bld 1 ((r.filter (out ns)).map .str), [])
  | [], k, h => by
    have hk : r.length ≤ k := by have := congrArg List.length h; simp at this; omega
    rw [e15_11014, endK_map h, List.take_of_length_le hk]
    rfl
  | x :: rest, k, h => by
    have hm : r.length ≤ maxLen := by simp only [BIG] at hr; simp [maxLen]; omega
    have A := atK_map (f := PV.str) h hm
    have A' := atK h hm
    have ih := l15 hn hr t rest (k + 1) A'.drop
    have hs : small ((((r.take k).filter (out ns)).map PV.str).length) 1 16 = true := small_of (by
      have := filter_len r (out ns) k
      simp only [BIG] at hr
      simp only [List.length_map]
      omega)
    rw [take_succ' h, List.filter_append, List.map_append] at ih
    rw [e15_11014]
    simp only [A.lt, A.ge, A.get, A.next, cond_true, Option.bind_some]
    simp only [str_fits, str_str, cond_true]
    rw [v25 hn]
    simp only [Option.bind_some, retPV_pv, fits_bool, toBool_bool, cond_true, hs]
    cases hh : has ns x with
    | true =>
      rw [show ([x] : List Str).filter (out ns) = [] from by simp [out, hh]] at ih
      simp only [List.map_nil, List.append_nil] at ih
      exact ih
    | false =>
      rw [show ([x] : List Str).filter (out ns) = [x] from by simp [out, hh]] at ih
      exact ih
theorem v15 {ns r : List Str} (hn : ns.length ≤ maxLen) (hr : r.length ≤ BIG) {t : Ty} (h : V 17 [.pv t.enc] = some (.bld 1 (r.map .str), [])) : V 15 [.pv (pl ns t)] = some (.bld 1 ((r.filter (out ns)).map .str), []) := by
  have h0 := e15 (ns.map .str) t.kind t.name (t.args.map Ty.enc)
  rw [ty_eta, pl_mk, h] at h0
  rw [h0]
  simp only [Option.bind_some, retPV_bld, lst_fits, lst_lst, cond_true]
  exact l15 hn hr t r 0 rfl
theorem l13 {ns r : List Str} (hn : ns.length ≤ maxLen) (hr : r.length ≤ BIG) (t : Ty) : ∀ (rest : List Str) (k : Nat), r.drop k = rest →
    L13_1111014 (ns.map .str) (r.map .str) k t.kind t.name (t.args.map Ty.enc) (((r.take k).filter (out ns)).map .str) t.kind t.name (t.args.map Ty.enc) = some (.pv (pl (r.filter (out ns)) t), [])
  | [], k, h => by
    have hk : r.length ≤ k := by have := congrArg List.length h; simp at this; omega
    rw [e13_1111014, endK_map h, List.take_of_length_le hk]
    rfl
  | x :: rest, k, h => by
    have hm : r.length ≤ maxLen := by simp only [BIG] at hr; simp [maxLen]; omega
    have A := atK_map (f := PV.str) h hm
    have A' := atK h hm
    have ih := l13 hn hr t rest (k + 1) A'.drop
    have hs : small ((((r.take k).filter (out ns)).map PV.str).length) 1 16 = true := small_of (by
      have := filter_len r (out ns) k
      simp only [BIG] at hr
      simp only [List.length_map]
      omega)
    rw [take_succ' h, List.filter_append, List.map_append] at ih
    rw [e13_1111014]
    simp only [A.lt, A.ge, A.get, A.next, cond_true, Option.bind_some]
    simp only [str_fits, str_str, cond_true]
    rw [v25 hn]
    simp only [Option.bind_some, retPV_pv, fits_bool, toBool_bool, cond_true, hs]
    cases hh : has ns x with
    | true =>
      rw [show ([x] : List Str).filter (out ns) = [] from by simp [out, hh]] at ih
      simp only [List.map_nil, List.append_nil] at ih
      exact ih
    | false =>
      rw [show ([x] : List Str).filter (out ns) = [x] from by simp [out, hh]] at ih
      exact ih
theorem fin13 {ns r : List Str} (hn : ns.length ≤ maxLen) (hr : r.length ≤ BIG) {t : Ty} (ht : Okt t) (h : V 17 [.pv t.enc] = some (.bld 1 (r.map .str), [])) : (((V 14 [.pv (.agg [.int .i64 t.kind, .str t.name, .lst (t.args.map Ty.enc)])]).bind retPV).bind fun r1 =>
    (bif (Sh.agg [Sh.lst, Sh.int .i64, Sh.str, Sh.lst]).fitsNil r1 then
      L13_11116 (ns.map .str) t.kind t.name (t.args.map Ty.enc) ((r1.c 1).toInt) ((r1.c 2).toStr) ((r1.c 3).toLst)
    else bif (Sh.agg [Sh.lst, Sh.int .i64, Sh.str, Sh.lst]).fits r1 then
      L13_11116v1 (ns.map .str) t.kind t.name (t.args.map Ty.enc) ((r1.c 0).toLst) ((r1.c 1).toInt) ((r1.c 2).toStr) ((r1.c 3).toLst)
    else none)) = some (.pv (pl (r.filter (out ns)) t), []) := by
  rw [ty_eta, v14 ht]
  simp only [Option.bind_some, retPV_pv, nl_fits, nl_1, nl_2, nl_3, cond_true]
  rw [e13_11116, ty_eta, h]
  simp only [Option.bind_some, retPV_bld, lst_fits, lst_lst, cond_true]
  exact l13 hn hr t r 0 rfl
theorem v13a {r : List Str} (hr : r.length ≤ BIG) {t : Ty} (ht : Okt t) (h : V 17 [.pv t.enc] = some (.bld 1 (r.map .str), [])) : V 13 [.pv (.lst []), .pv t.enc] = some (.pv (pl r t), []) := by
  have h0 := e13 [] t.kind t.name (t.args.map Ty.enc)
  rw [ty_eta] at h0
  rw [h0, e13_11014]
  have := fin13 (ns := []) (by simp) hr ht h
  rw [out_nil] at this
  exact this
theorem v13b {r : List Str} (hr : r.length ≤ BIG) {t : Ty} (ht : Okt t) (h : V 17 [.pv t.enc] = some (.bld 1 (r.map .str), [])) : V 13 [.pv (.lst [pl [] t]), .pv t.enc] = some (.pv (pl [] t), []) := by
  have h0 := e13 [pl [] t] t.kind t.name (t.args.map Ty.enc)
  rw [ty_eta] at h0
  have hm : r.length ≤ maxLen := by simp only [BIG] at hr; simp [maxLen]; omega
  have A := atK (xs := [pl [] t]) (k := 0) (l := []) rfl (by simp [maxLen])
  have a1 : decide ((0 : Int) < (([pl [] t] : List PV).length : Int)) = true := A.lt
  have a2 : decide ((0 : Int) ≤ 0) = true := A.ge
  have a3 : ([pl [] t] : List PV)[(0 : Int).toNat]? = some (pl [] t) := rfl
  have h15 := v15 (ns := []) (by simp) hr h
  rw [out_nil] at h15
  have hhd : headOk 1 (r.map PV.str) = true := headOk_str r
  have hs : small (([] : List PV).length) ((r.map PV.str).length) 16 = true := small_of (by simp only [BIG] at hr; simp; omega)
  rw [h0, e13_11014]
  simp only [a1, a2, a3, cond_true, Option.bind_some, pl_fits, pl_0, pl_1, pl_2, pl_3]
  rw [pl_mk, h15]
  simp only [Option.bind_some, retPV_bld, lst_fits, lst_lst, cond_true, hhd, hs, List.nil_append]
  rw [show IntKind.i64.wrap (0 + 1) = 1 from rfl, e13_11014]
  have := fin13 (ns := r) hm hr ht h
  rw [out_self] at this
  exact this
theorem l16 {r : List Str} (hr : r.length ≤ maxLen) : ∀ (rest : List Str) (k : Nat), r.drop k = rest → L16_11014 (r.map .str) (r.map .str) k = some (.pv (.bool true), [])
  | [], k, h => by rw [e16_11014, endK_map h]; rfl
  | x :: rest, k, h => by
    have A := atK_map (f := PV.str) h hr
    have A' := atK h hr
    have ih := l16 hr rest (k + 1) A'.drop
    rw [e16_11014]
    simp only [A.lt, A.ge, A.get, A.next, cond_true, Option.bind_some, str_fits, str_str]
    rw [show (x == x) = true from by simp]
    exact ih
theorem v16 {r : List Str} (hr : r.length ≤ maxLen) : V 16 [.pv (.lst (r.map .str)), .pv (.lst (r.map .str))] = some (.pv (.bool true), []) := by
  rw [e16, show (((r.map PV.str).length : Int) != ((r.map PV.str).length : Int)) = false from by simp]
  exact l16 hr r 0 rfl
theorem put_var (r : List Str) {t : Ty} : Pur t → put r (r.map var) t = t := by
  refine Ty.ind (Q := fun t => Pur t → put r (r.map var) t = t) (fun k n a ih hp => ?_) t
  have hp5 := hp.five
  rw [put, puts_map, List.map_congr_left (fun t ht => ih t ht (hp.sub t ht))]
  cases hk : k == 5 with
  | false => simp
  | true =>
    have hk5 : k = 5 := by simpa using hk
    subst hk5
    obtain rfl := hp5 rfl
    simp only [cond_true]
    unfold putAt
    rcases idx_spec n r 0 with ⟨h1, h2⟩ | ⟨j, h1, h2⟩
    · rw [h1]; simp
    · rw [h1, decide_eq_true (by omega)]
      have e : (((0 + j : Nat) : Int)).toNat = j := by omega
      simp only [cond_true]
      rw [e, List.getElem?_map, h2]
      rfl
theorem law4 {t : Ty} (ht : Okt t) (hb : sz t ≤ BIG) : V 4 [.pv t.enc] = some (.pv (.bool true), []) := by
  have h0 := e4 t.kind t.name (t.args.map Ty.enc)
  rw [ty_eta] at h0
  obtain ⟨b, h1, h2⟩ := v12 ht
  rw [h0, v9, h1]
  simp only [Option.bind_some, retPV_pv, fits_bool, toBool_bool, cond_true, Bool.not_true, cond_false]
  cases b with
  | false => rfl
  | true =>
    have hp := h2 rfl
    have hWl : (nms t).length ≤ 4 * BIG := by rw [nms_len]; omega
    obtain ⟨r, g1, g2, g3⟩ := v17 (W := nms t) hWl ht (fun n hn => nms_occ hn.occ.1)
    have hr : r.length ≤ BIG := by
      have := nodup_sub r (nms t) g2 fun n hn => nms_occ ((g3 n).1 hn).occ.1
      rw [nms_len] at this
      omega
    have hm : r.length ≤ maxLen := by simp only [BIG] at hr; simp [maxLen]; omega
    simp only [Bool.not_true, cond_false]
    rw [v13a hr ht g1]
    simp only [Option.bind_some, retPV_pv, pl_fits, pl_0, pl_1, pl_2, pl_3, cond_true]
    rw [v14 ht]
    simp only [Option.bind_some, retPV_pv, nl_fits, nl_1, nl_2, nl_3, cond_true]
    rw [show PV.agg [.lst [], .int .i64 t.kind, .str t.name, .lst (t.args.map Ty.enc)] = pl [] t from rfl, v13b hr ht g1]
    simp only [Option.bind_some, retPV_pv, pl_fits, pl_0, pl_1, pl_2, pl_3, cond_true]
    have k1 := v15 (ns := r) hm hr g1
    rw [out_self] at k1
    have k2 := v15 (ns := []) (by simp) hr g1
    rw [out_nil] at k2
    rw [e4_111116, pl_mk, k1]
    simp only [Option.bind_some, retPV_bld, lst_fits, lst_lst, cond_true, List.map_nil, List.length_nil]
    rw [show (((0 : Nat) : Int) == 0) = true from rfl]
    simp only [cond_true]
    rw [show PV.agg [.lst [], .int .i64 t.kind, .str t.name, .lst (t.args.map Ty.enc)] = pl [] t from rfl, k2]
    simp only [Option.bind_some, retPV_bld, lst_fits, lst_lst, cond_true]
    rw [ty_eta, g1]
    simp only [Option.bind_some, retPV_bld, lst_fits, lst_lst, cond_true]
    rw [v16 hm]
    simp only [Option.bind_some, retPV_pv, fits_bool, toBool_bool, cond_true]
    have k3 := v11 (names := r) (l := r.map var) hm (by simp) (fun u hu => by obtain ⟨n, _, rfl⟩ := List.mem_map.1 hu; exact .mk (by simp) (by simp) (by simp)) ht
    rw [put_var r hp, pl_mk] at k3
    rw [k3]
    rfl
end Go.AL.S5.Un
