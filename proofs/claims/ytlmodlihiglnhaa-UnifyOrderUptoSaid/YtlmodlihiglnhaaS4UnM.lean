/- Types made alike: the answer is the most general one. -/
import Derived.Test.YtlmodlihiglnhaaS4UnL
set_option linter.unusedVariables false
set_option linter.unusedSimpArgs false
namespace Go.AL.S4.Un
open Go Go.AL Go.AL.S4

theorem v23 (b : Bd) : ∃ r, V 23 [.pv (eB b)] = some (.pv (.bool r), []) ∧ (r = false → qn b.1) := by
  obtain ⟨n, t⟩ := b
  have h0 := e23 n t.kind t.name (t.args.map Ty.enc)
  rw [eB_mk] at h0
  rw [h0]
  cases n with
  | nil => exact ⟨true, rfl, fun h => by cases h⟩
  | cons c n =>
    refine ⟨((c.toNat : Int) != (63 : Int)), rfl, fun h => ?_⟩
    have h1 : ((c.toNat : Int)) = 63 := by simpa using h
    have h2 : c = 63 := by
      apply UInt8.toNat_inj.1
      show c.toNat = 63
      omega
    simp [qn, h2]
theorem l56 {bs : List Bd} (hl : bs.length ≤ maxLen) : ∀ (l : List Bd) (k : Nat), bs.drop k = l →
    ∃ n : Int, L56_1014 (bs.map eB) 23 [] k = some (.pv (.int .i64 n), []) ∧ (decide (n ≥ 0) = false → ∀ b, b ∈ l → qn b.1)
  | [], k, h => ⟨-1, by rw [e56_1014, endK_map h]; rfl, fun _ t ht => by cases ht⟩
  | x :: l, k, h => by
    have A := atK_map (f := eB) h hl
    have A' := atK h hl
    obtain ⟨b, g1, g2⟩ := v23 x
    obtain ⟨n, k1, k2⟩ := l56 hl l (k + 1) A'.drop
    have e0 : PV.agg [.str x.1, .int .i64 x.2.kind, .str x.2.name, .lst (x.2.args.map Ty.enc)] = eB x := rfl
    rw [e56_1014]
    simp only [A.lt, A.ge, A.get, A.next, cond_true, Option.bind_some]
    simp only [eB_fits, eB_0, eB_1, eB_2, eB_3, cond_true, List.append_nil, List.map_cons, List.map_nil, e0, g1, Option.bind_some, retPV_pv, fits_bool, toBool_bool]
    cases b with
    | true => exact ⟨k, rfl, fun h => by simp at h⟩
    | false => exact ⟨n, k1, fun h t ht => by
        rcases List.mem_cons.1 ht with rfl | ht
        · exact g2 rfl
        · exact k2 h t ht⟩
theorem v22 {bs : List Bd} (hl : bs.length ≤ maxLen) : ∃ b, V 22 [.pv (.lst (bs.map eB)), .pv (.fn 23 [])] = some (.pv (.bool b), []) ∧ (b = false → ∀ c, c ∈ bs → qn c.1) := by
  obtain ⟨n, h1, h2⟩ := l56 hl bs 0 rfl
  refine ⟨decide (n ≥ 0), ?_, h2⟩
  have h1' : L56_1014 (bs.map eB) 23 [] 0 = some (.pv (.int .i64 n), []) := h1
  rw [e22, e56, h1']
  simp only [Option.bind_some, retPV_pv, fits_i64, cond_true, toInt_int]

structure GoodB (bs : List Bd) : Prop where
  okt : OkL bs
  bulk : bs.length + szs (bs.map (·.2)) ≤ BIG
theorem okt_var (n : Str) : Okt (var n) := .mk (by simp) (by simp) (by simp)
theorem var_enc (n : Str) : PV.agg [.int .i64 5, .str n, .lst []] = (var n).enc := by simp [var, enc_mk]
theorem head1 (l : List Str) : headOk 1 (l.map .str) = true := headOk_str l

/-- The names that are looked for. -/
theorem l7c {W : List Str} {bs l : List Bd} (gb : GoodB bs) (hll : l.length ≤ 4 * BIG) (ho : OkL l) (hS : Sol (lk bs) l) (l1 : List PV) (i i2 : Int) {xs ys : List Str} (hx : (xs ++ ys).length ≤ maxLen) : ∀ (rest : List Str) (k : Nat), (xs ++ ys).drop k = rest →
    L7_1111111101451104114 (bs.map eB) (l.map eB) l1 i i2 (xs.map .str) (ys.map .str) k = L7_11111111014 (bs.map eB) (l.map eB) l1 i (IntKind.i64.wrap (i2 + 1))
  | [], k, h => by
    have := endK_map (f := PV.str) h
    rw [List.map_append] at this
    rw [e7_1111111101451104114, this]
    rfl
  | x :: rest, k, h => by
    have A := atK_map (f := PV.str) h hx
    have A' := atK h hx
    have ih := l7c (W := W) gb hll ho hS l1 i i2 hx rest (k + 1) A'.drop
    rw [List.map_append] at A
    have hb : bs.length ≤ 4 * BIG := by have := gb.bulk; omega
    have hv := okt_var x
    have o1 := okt_ap ho hv
    have o2 := okt_ap gb.okt o1
    have E : ap (lk bs) (ap (lk l) (var x)) = ap (lk bs) (var x) := hS.comp (.mk (fun _ => rfl) (by simp))
    rw [e7_1111111101451104114]
    simp only [A.lt, A.ge, A.get, A.next, cond_true, Option.bind_some]
    rw [show Sh.str.fits (PV.str x) = true from rfl, show (PV.str x).toStr = x from rfl, var_enc, v20p hll ho hv]
    simp only [Option.bind_some, retPV_pv, ty_fits, ty_k, ty_n, ty_a, ty_eta, cond_true]
    rw [v20p hb gb.okt o1, v20p hb gb.okt hv]
    simp only [Option.bind_some, retPV_pv, ty_fits, ty_k, ty_n, ty_a, ty_eta, cond_true]
    rw [E, v21 (okt_ap gb.okt hv), same_refl]
    simp only [Option.bind_some, retPV_pv, fits_bool, toBool_bool, cond_true, Bool.not_true, cond_false]
    exact ih
theorem l7b {ps : List Pq} (g : Good ps) {bs l : List Bd} (gb : GoodB bs) (hll : l.length ≤ 4 * BIG) (ho : OkL l) (hS : Sol (lk bs) l) : ∀ (rest : List Pq) (k : Nat), ps.drop k = rest →
    L7_11111111014 (bs.map eB) (l.map eB) (ps.map eQ) ((ps.map eQ).length : Int) k = some (.pv (.bool true), [])
  | [], k, h => by rw [e7_11111111014, endK_map h]; rfl
  | p :: rest, k, h => by
    have A := atK_map (f := eQ) h g.len
    have A' := atK h g.len
    have ih := l7b g gb hll ho hS rest (k + 1) A'.drop
    have hp := mem_drop h
    obtain ⟨o1, o2⟩ := g.okt p hp
    have hW := g.W
    have hW4 : (nmss (both ps)).length ≤ 4 * BIG := by omega
    have w1 : ∀ n, OccU n p.1 → n ∈ nmss (both ps) := fun n h => nmss_mem (both_mem hp).1 (nms_occ h.occ.1)
    have w2 : ∀ n, OccU n p.2 → n ∈ nmss (both ps) := fun n h => nmss_mem (both_mem hp).2 (nms_occ h.occ.1)
    obtain ⟨x1, a1, a2, a3⟩ := v24 hW4 o1 w1
    obtain ⟨x2, b1, b2, b3⟩ := v24 hW4 o2 w2
    have c1 := nodup_sub x1 _ a2 fun n hn => w1 n ((a3 n).1 hn)
    have c2 := nodup_sub x2 _ b2 fun n hn => w2 n ((b3 n).1 hn)
    have hs : small ((x1.map PV.str).length) ((x2.map PV.str).length) 16 = true := small_of (by simp only [BIG] at hW; simp only [List.length_map]; omega)
    rw [e7_11111111014]
    simp only [A.lt, A.ge, A.get, cond_true, Option.bind_some, eQ_fits, eQ_0, eQ_1, eQ_2, eQ_3, eQ_4, eQ_5, ty_eta]
    rw [a1, b1]
    simp only [Option.bind_some, retB_bld, retPV_bld, cond_true]
    rw [show Sh.lst.fits (PV.lst (x2.map PV.str)) = true from rfl, show (PV.lst (x2.map PV.str)).toLst = x2.map PV.str from rfl, head1, hs]
    simp only [cond_true]
    have := l7c (W := []) gb hll ho hS (ps.map eQ) ((ps.map eQ).length : Int) k (xs := x1) (ys := x2) (by simp only [BIG] at hW; simp [maxLen]; omega) (x1 ++ x2) 0 rfl
    refine Eq.trans this ?_
    rw [A.next]
    exact ih
theorem fin7 {ps : List Pq} (g : Good ps) (hu : ∀ p, p ∈ ps → Pur p.1 ∧ Pur p.2) {bs : List Bd} (gb : GoodB bs) (hq : ∀ c, c ∈ bs → qn c.1) (hE : Eqs ps (lk bs)) : (((V 19 [.pv (.lst (ps.map eQ))]).bind retPV).bind fun r4 =>
    (bif (Sh.tup [Sh.lst, Sh.int .i64]).fits r4 then
      bif (((r4.r 1).toInt) == (2 : Int)) then
        some (.pv (.bool true), [])
      else bif (((r4.r 1).toInt) != (0 : Int)) then
        some (.pv (.bool false), [])
      else L7_11111111014 (bs.map eB) ((r4.r 0).toLst) (ps.map eQ) ((ps.map eQ).length : Int) 0
    else none)) = some (.pv (.bool true), []) := by
  obtain ⟨r, h1, h2⟩ := g.solve hu
  have hQ : Qs (lk bs) := fun n u h => hq _ (lk_mem h)
  rw [h1]
  simp only [Option.bind_some, retPV_pv, encT_fits, cond_true]
  cases r with
  | ok l =>
    obtain ⟨i1, i2, i3⟩ := h2
    simp only [encT, tl0, tl1]
    have := i1.len
    have := g.W
    exact l7b g gb (by omega) i2 ((i3 _ hQ).2 ⟨sol_nil _, hE⟩) ps 0 rfl
  | large => rfl
  | bad => exact absurd hE (h2 _ hQ (sol_nil _))
  | loop => exact absurd hE (h2 _ hQ (sol_nil _))
theorem l7a {ps : List Pq} (g : Good ps) (hu : ∀ p, p ∈ ps → Pur p.1 ∧ Pur p.2) {bs : List Bd} (gb : GoodB bs) (hq : ∀ c, c ∈ bs → qn c.1) : ∀ (rest : List Pq) (k : Nat), ps.drop k = rest → (∀ p, p ∈ ps.take k → ap (lk bs) p.1 = ap (lk bs) p.2) →
    L7_1111014 (bs.map eB) ((ps.take k).map eQ) (ps.map eQ) k = some (.pv (.bool true), [])
  | [], k, h, he => by
    have hk : ps.length ≤ k := by have := congrArg List.length h; simp at this; omega
    rw [List.take_of_length_le hk] at he ⊢
    rw [e7_1111014, endK_map h]
    simp only [cond_false]
    exact fin7 g hu gb hq he
  | p :: rest, k, h, he => by
    have A := atK_map (f := eQ) h g.len
    have A' := atK h g.len
    have hp := mem_drop h
    obtain ⟨o1, o2⟩ := g.okt p hp
    have hbk := gb.bulk
    have hb : bs.length ≤ 4 * BIG := by omega
    have k1 := okt_ap gb.okt o1
    have hgb := g.bulk
    have hs : small (((ps.take k).map eQ).length) 1 96 = true := small_of (by
      have h1 : (ps.take k).length ≤ ps.length := by simp; omega
      have h3 : ps.length ≤ szs (both ps) := by
        have : ∀ l : List Pq, l.length ≤ szs (both l) := by
          intro l
          induction l with
          | nil => simp
          | cons x l ih =>
            have e : both (x :: l) = x.1 :: x.2 :: both l := rfl
            rw [e]
            have := szs_len [x.1]
            simp only [szs, List.length_cons, List.length_nil] at this ⊢
            omega
        exact this ps
      simp only [BIG] at hgb
      simp only [List.length_map]
      omega)
    have hO : ∀ n, OccU n (ap (lk bs) p.1) → n ∈ nmss (both ps) ++ nmss (bs.map (·.2)) := fun n hn => by
      rcases occ_ap hn.occ.1 with ⟨h1, _⟩ | ⟨m, u, _, h2, h3⟩
      · exact List.mem_append_left _ (nmss_mem (both_mem hp).1 (nms_occ h1))
      · exact List.mem_append_right _ (nmss_mem (List.mem_map.2 ⟨_, lk_mem h2, rfl⟩) (nms_occ h3))
    obtain ⟨xs, x1, x2, x3⟩ := v24 (W := nmss (both ps) ++ nmss (bs.map (·.2))) (by rw [List.length_append, nmss_len, nmss_len]; omega) k1 hO
    rw [e7_1111014]
    simp only [A.lt, A.ge, A.get, A.next, cond_true, Option.bind_some, eQ_fits, eQ_0, eQ_1, eQ_2, eQ_3, eQ_4, eQ_5, ty_eta]
    rw [v20p hb gb.okt o1, v20p hb gb.okt o2]
    simp only [Option.bind_some, retPV_pv, ty_fits, ty_k, ty_n, ty_a, ty_eta, cond_true]
    rw [v21 k1]
    simp only [Option.bind_some, retPV_pv, fits_bool, toBool_bool, cond_true]
    cases hsm : same (ap (lk bs) p.1) (ap (lk bs) p.2) with
    | false => rfl
    | true =>
      simp only [Bool.not_true, cond_false]
      rw [x1]
      simp only [Option.bind_some, retPV_bld]
      rw [show Sh.lst.fits (PV.lst (xs.map PV.str)) = true from rfl]
      simp only [cond_true, hs]
      cases decide ((((PV.lst (xs.map PV.str)).toLst).length : Int) > 0) with
      | true => rfl
      | false =>
        simp only [cond_false]
        have he' : ∀ q, q ∈ ps.take (k + 1) → ap (lk bs) q.1 = ap (lk bs) q.2 := fun q hq => by
          rw [take_succ' h] at hq
          rcases List.mem_append.1 hq with hq | hq
          · exact he q hq
          · rw [List.mem_singleton.1 hq]; exact same_eq hsm
        have ih := l7a g hu gb hq rest (k + 1) A'.drop he'
        rw [take_succ' h, List.map_append] at ih
        exact ih
theorem law7 {ps : List Pq} (g : Good ps) {bs : List Bd} (gb : GoodB bs) : V 7 [.pv (.lst (ps.map eQ)), .pv (.lst (bs.map eB))] = some (.pv (.bool true), []) := by
  obtain ⟨b, h1, h2⟩ := g.fair
  rw [e7, h1, v18]
  simp only [Option.bind_some, retPV_pv, fits_bool, toBool_bool, cond_true]
  cases b with
  | false => rfl
  | true =>
    simp only [Bool.not_true, cond_false]
    obtain ⟨c, h3, h4⟩ := v22 (bs := bs) (by have := gb.bulk; simp only [BIG] at this; simp [maxLen]; omega)
    rw [h3]
    simp only [Option.bind_some, retPV_pv, fits_bool, toBool_bool, cond_true]
    cases c with
    | true => rfl
    | false => exact l7a g (h2 rfl) gb (h4 rfl) ps 0 rfl (by simp)
end Go.AL.S4.Un
