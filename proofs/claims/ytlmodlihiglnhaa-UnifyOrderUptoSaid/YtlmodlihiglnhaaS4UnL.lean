/- Types made alike: the three laws. -/
import Derived.Test.YtlmodlihiglnhaaS4UnF
set_option linter.unusedVariables false
set_option linter.unusedSimpArgs false
namespace Go.AL.S4.Un
open Go Go.AL Go.AL.S4

theorem tl0 (xs : List PV) (c : Int) : ((PV.tup [.lst xs, .int .i64 c]).r 0).toLst = xs := nrfl rfl
theorem tl1 (xs : List PV) (c : Int) : ((PV.tup [.lst xs, .int .i64 c]).r 1).toInt = c := nrfl rfl
theorem tlf (xs : List PV) (c : Int) : (Sh.tup [Sh.lst, Sh.int .i64]).fits (.tup [.lst xs, .int .i64 c]) = true := nrfl rfl
structure Good (ps : List Pq) : Prop where
  len : ps.length ≤ maxLen
  okt : ∀ p, p ∈ ps → Okt p.1 ∧ Okt p.2
  bulk : szs (both ps) ≤ BIG
theorem Good.fair {ps : List Pq} (g : Good ps) : ∃ b, V 17 [.pv (.lst (ps.map eQ))] = some (.pv (.bool b), []) ∧ (b = true → ∀ p, p ∈ ps → Pur p.1 ∧ Pur p.2) :=
  v17 g.len fun p hp => ⟨g.okt p hp, by have := sz_mem (both_mem hp).1; have := g.bulk; omega, by have := sz_mem (both_mem hp).2; have := g.bulk; omega⟩
theorem Good.okQ {ps : List Pq} (g : Good ps) (hu : ∀ p, p ∈ ps → Pur p.1 ∧ Pur p.2) : ∀ p, p ∈ ps → OkQ (nmss (both ps)) p := okQ_of (fun n h => h) g.okt hu
theorem Good.W {ps : List Pq} (g : Good ps) : (nmss (both ps)).length ≤ BIG := by rw [nmss_len]; exact g.bulk
theorem Good.solve {ps : List Pq} (g : Good ps) (hu : ∀ p, p ∈ ps → Pur p.1 ∧ Pur p.2) : ∃ r, V 19 [.pv (.lst (ps.map eQ))] = some (.pv (encT r), []) ∧ Tells (nmss (both ps)) [] (Eqs ps) r := v19 g.W g.len (g.okQ hu)
theorem sol_nil (σ : Str → Option Ty) : Sol σ [] := fun b hb => by cases hb

/-! #### What is told solves -/
theorem l6 {W : List Str} (hW : W.length ≤ BIG) {ps : List Pq} (g : Good ps) {l : List Bd} (hi : Inv W l) (ho : OkL l) (he : Eqs ps (lk l)) : ∀ (rest : List Pq) (k : Nat), ps.drop k = rest → L6_11111014 (l.map eB) (ps.map eQ) k = some (.pv (.bool true), [])
  | [], k, h => by rw [e6_11111014, endK_map h]; rfl
  | p :: rest, k, h => by
    have A := atK_map (f := eQ) h g.len
    have A' := atK h g.len
    have ih := l6 hW g hi ho he rest (k + 1) A'.drop
    have hp := mem_drop h
    obtain ⟨o1, o2⟩ := g.okt p hp
    have hll : l.length ≤ 4 * BIG := by have := hi.len; omega
    have E := he p hp
    have k1 := okt_ap ho o1
    have k2 := okt_ap ho o2
    rw [e6_11111014]
    simp only [A.lt, A.ge, A.get, A.next, cond_true, Option.bind_some, eQ_fits, eQ_0, eQ_1, eQ_2, eQ_3, eQ_4, eQ_5, ty_eta]
    rw [v20p hll ho o1, v20p hll ho o2]
    simp only [Option.bind_some, retPV_pv, ty_fits, ty_k, ty_n, ty_a, ty_eta, cond_true]
    rw [v21 k1, ← E, same_refl]
    simp only [Option.bind_some, retPV_pv, fits_bool, toBool_bool, cond_true, Bool.not_true, cond_false]
    rw [v20p hll ho k1]
    simp only [Option.bind_some, retPV_pv, ty_fits, ty_k, ty_n, ty_a, ty_eta, cond_true]
    rw [hi.twice, v21 k1, same_refl]
    simp only [Option.bind_some, retPV_pv, fits_bool, toBool_bool, cond_true, Bool.not_true, cond_false]
    exact ih
theorem law6 {ps : List Pq} (g : Good ps) : V 6 [.pv (.lst (ps.map eQ))] = some (.pv (.bool true), []) := by
  obtain ⟨b, h1, h2⟩ := g.fair
  rw [e6, h1]
  simp only [Option.bind_some, retPV_pv, fits_bool, toBool_bool, cond_true]
  cases b with
  | false => rfl
  | true =>
    simp only [Bool.not_true, cond_false]
    rw [v18]
    simp only [Option.bind_some, retPV_pv, fits_bool, toBool_bool, cond_true, Bool.not_true, cond_false]
    obtain ⟨r, h3, h4⟩ := g.solve (h2 rfl)
    rw [h3]
    simp only [Option.bind_some, retPV_pv, encT_fits, cond_true]
    cases r with
    | ok l =>
      obtain ⟨i1, i2, i3⟩ := h4
      simp only [encT, tl0, tl1]
      exact l6 g.W g i1 i2 ((i3 _ i1.qs).1 i1.self).2 ps 0 rfl
    | bad => rfl
    | loop => rfl
    | large => rfl

/-! #### The order of the pairs does not count -/
def swp (p : Pq) : Pq := (p.2, p.1)
theorem fin5 {W W' : List Str} {E : (Str → Option Ty) → Prop} {r r1 : Res} (h : Tells W [] E r) (h1 : Tells W' [] E r1) :
    (bif (((encT r).r 1).toInt == (2 : Int)) then some ((.pv (.bool true), []) : Out) else bif (((encT r1).r 1).toInt == (2 : Int)) then some (.pv (.bool true), []) else some (.pv (.bool ((((encT r).r 1).toInt == (0 : Int)) == (((encT r1).r 1).toInt == (0 : Int)))), [])) = some (.pv (.bool true), []) := by
  have ok : ∀ {W : List Str} {l : List Bd}, Tells W [] E (.ok l) → ∃ σ, Qs σ ∧ E σ := fun {W l} h => by
    obtain ⟨i1, i2, i3⟩ := h
    exact ⟨lk l, i1.qs, ((i3 _ i1.qs).1 i1.self).2⟩
  cases r with
  | large => rfl
  | ok l =>
    obtain ⟨σ, hq, he⟩ := ok h
    cases r1 with
    | large => rfl
    | ok l => rfl
    | bad => exact absurd he (h1 σ hq (sol_nil σ))
    | loop => exact absurd he (h1 σ hq (sol_nil σ))
  | bad =>
    cases r1 with
    | large => rfl
    | ok l =>
      obtain ⟨σ, hq, he⟩ := ok h1
      exact absurd he (h σ hq (sol_nil σ))
    | bad => rfl
    | loop => rfl
  | loop =>
    cases r1 with
    | large => rfl
    | ok l =>
      obtain ⟨σ, hq, he⟩ := ok h1
      exact absurd he (h σ hq (sol_nil σ))
    | bad => rfl
    | loop => rfl
theorem eqs_swap (ps : List Pq) : Eqs (ps.reverse.map swp) = Eqs ps := by
  funext σ
  refine propext ⟨fun h p hp => ?_, fun h p hp => ?_⟩
  · exact (h (swp p) (List.mem_map.2 ⟨p, List.mem_reverse.2 hp, rfl⟩)).symm
  · obtain ⟨q, hq, rfl⟩ := List.mem_map.1 hp
    exact (h q (List.mem_reverse.1 hq)).symm
theorem head6 (l : List Pq) : headOk 6 (l.map eQ) = true := by cases l <;> rfl
theorem fin5v {ps : List Pq} (g : Good ps) (hu : ∀ p, p ∈ ps → Pur p.1 ∧ Pur p.2) : (((V 19 [.pv (.lst (ps.map eQ))]).bind retPV).bind fun r =>
    (bif (Sh.tup [Sh.lst, Sh.int .i64]).fits r then
      ((V 19 [.pv (.lst ((ps.reverse.map swp).map eQ))]).bind retPV).bind fun r1 =>
        (bif (Sh.tup [Sh.lst, Sh.int .i64]).fits r1 then
          bif (((r.r 1).toInt) == (2 : Int)) then
            some ((.pv (.bool true), []) : Out)
          else bif (((r1.r 1).toInt) == (2 : Int)) then
            some (.pv (.bool true), [])
          else some (.pv (.bool ((((r.r 1).toInt) == (0 : Int)) == (((r1.r 1).toInt) == (0 : Int)))), [])
        else none)
    else none)) = some (.pv (.bool true), []) := by
  obtain ⟨r, h1, h2⟩ := g.solve hu
  obtain ⟨r1, h3, h4⟩ := v19 (ps := ps.reverse.map swp) g.W (by simpa using g.len) (fun p hp => by
    obtain ⟨q, hq, rfl⟩ := List.mem_map.1 hp
    obtain ⟨a, b, c, d⟩ := g.okQ hu q (List.mem_reverse.1 hq)
    exact ⟨b, a, d, c⟩)
  rw [eqs_swap] at h4
  rw [h1, h3]
  simp only [Option.bind_some, retPV_pv, encT_fits, cond_true]
  exact fin5 h2 h4
theorem l5 {ps : List Pq} (g : Good ps) (hu : ∀ p, p ∈ ps → Pur p.1 ∧ Pur p.2) : ∀ (rest : List Pq) (k : Nat), ps.drop k = rest → L5_1111014v1 (ps.map eQ) (((ps.take k).reverse.map swp).map eQ) k = some (.pv (.bool true), [])
  | [], k, h => by
    have hk : ps.length ≤ k := by have := congrArg List.length h; simp at this; omega
    rw [e5_1111014v1, endK_map h, List.take_of_length_le hk]
    simp only [cond_false]
    exact fin5v g hu
  | p :: rest, k, h => by
    have A := atK_map (f := eQ) h g.len
    have A' := atK h g.len
    have ih := l5 g hu rest (k + 1) A'.drop
    have hs : small 1 ((((ps.take k).reverse.map swp).map eQ).length) 96 = true := small_of (by
      have h1 : (ps.take k).length ≤ ps.length := by simp; omega
      have h2 := g.bulk
      have h3 : ps.length ≤ szs (both ps) := by
        have : ∀ l : List Pq, l.length ≤ szs (both l) := by
          intro l
          induction l with
          | nil => simp
          | cons x l ih =>
            have e : both (x :: l) = x.1 :: x.2 :: both l := rfl
            rw [e]
            have := szs_len [x.1]
            simp only [szs, List.length_cons, List.length_nil] at this ⊢
            omega
        exact this ps
      simp only [BIG] at h2
      simp only [List.length_map, List.length_reverse]
      omega)
    rw [e5_1111014v1]
    simp only [A.lt, A.ge, A.get, A.next, cond_true, Option.bind_some, eQ_fits, eQ_0, eQ_1, eQ_2, eQ_3, eQ_4, eQ_5, head6, hs]
    rw [take_succ' h, List.reverse_append, List.map_append, List.map_append] at ih
    exact ih
theorem law5 {ps : List Pq} (g : Good ps) : V 5 [.pv (.lst (ps.map eQ))] = some (.pv (.bool true), []) := by
  obtain ⟨b, h1, h2⟩ := g.fair
  rw [e5, h1]
  simp only [Option.bind_some, retPV_pv, fits_bool, toBool_bool, cond_true]
  cases b with
  | false => rfl
  | true =>
    simp only [Bool.not_true, cond_false]
    rw [v18]
    simp only [Option.bind_some, retPV_pv, fits_bool, toBool_bool, cond_true, Bool.not_true, cond_false]
    have hl := l5 g (h2 rfl)
    cases ps with
    | nil =>
      have := fin5v g (h2 rfl)
      rw [e5_1111014]
      exact this
    | cons p ps =>
      have A := atK_map (f := eQ) (xs := p :: ps) (k := 0) rfl g.len
      have a1 : decide ((0 : Int) < (((p :: ps).map eQ).length : Int)) = true := A.lt
      rw [e5_1111014, a1]
      simp only [cond_true]
      exact hl ps 1 rfl
end Go.AL.S4.Un
