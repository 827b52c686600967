/- A right program stays right without one declaration: the law, in plain words. -/
import Derived.Test.YtlmodlihiglnhaaS6Out
set_option linter.unusedVariables false
set_option linter.unusedSimpArgs false
set_option maxRecDepth 100000
namespace Go.AL.S6
open Go Go.AL

structure Bytes (p : Pg) : Prop where
  uses : p.uses.length * 32 ≤ reachBytes
  datas : p.datas.length * 64 ≤ reachBytes
  traits : p.traits.length * 40 ≤ reachBytes
  impls : p.impls.length * 56 ≤ reachBytes
  funs : p.funs.length * 272 ≤ reachBytes
  acts : p.acts.length * 248 ≤ reachBytes
def LessP (q p : Pg) : Prop := q.name = p.name ∧ q.ver = p.ver ∧ Less q.uses p.uses ∧ Less q.datas p.datas ∧ Less q.traits p.traits ∧ Less q.impls p.impls ∧ Less q.funs p.funs ∧ Less q.acts p.acts
theorem LessP.ok {q p : Pg} (h : LessP q p) (hp : OkPg p) : OkPg q := by
  obtain ⟨_, _, h1, h2, h3, h4, h5, h6⟩ := h
  exact ⟨Nat.le_trans h1.2 hp.uses, Nat.le_trans h2.2 hp.datas, Nat.le_trans h3.2 hp.traits, Nat.le_trans h4.2 hp.impls, Nat.le_trans h5.2 hp.funs, Nat.le_trans h6.2 hp.acts, fun x hx => hp.oD x (h2.1 x hx), fun x hx => hp.oT x (h3.1 x hx), fun x hx => hp.oM x (h4.1 x hx), fun x hx => hp.oF x (h5.1 x hx), fun x hx => hp.oA x (h6.1 x hx)⟩
theorem gN_iff (n : Nat) : z (gN n Z) ↔ n ≤ 40 := by
  unfold gN
  by_cases h : n ≤ 40
  · rw [decide_eq_false (by omega)]
    exact ⟨fun _ => h, fun _ => rfl⟩
  · rw [decide_eq_true (by omega)]
    simp only [cond_true]
    refine ⟨fun e => ?_, fun e => absurd e h⟩
    simp [z, Z] at e
theorem LessP.right {q p : Pg} (h : LessP q p) (hp : OkPg p) (hz : z (V 26 [.pv p.enc])) : z (V 26 [.pv q.enc]) := by
  have hq := h.ok hp
  rw [(v26 hp).2] at hz
  rw [(v26 hq).2]
  obtain ⟨h0, h0', h1, h2, h3, h4, h5, h6⟩ := h
  obtain ⟨a, b, c1, c2, ⟨c3, c4⟩, c5, c6⟩ := hz
  refine ⟨fun n hn => ?_, ?_, fun x hx => c1 x (h1.1 x hx), fun x hx => c2 x (h2.1 x hx), ⟨fun x hx => c3 x (h3.1 x hx), fun x hx => c4 x (h4.1 x hx)⟩, fun x hx => c5 x (h5.1 x hx), fun x hx => c6 x (h6.1 x hx)⟩
  · rw [gN_iff]
    have k1 := (gN_iff _).1 (a (p.uses.map Us.enc).length (by simp [sizes]))
    have k2 := (gN_iff _).1 (a (p.datas.map Da.enc).length (by simp [sizes]))
    have k3 := (gN_iff _).1 (a (p.traits.map eT).length (by simp [sizes]))
    have k4 := (gN_iff _).1 (a (p.impls.map Im.enc).length (by simp [sizes]))
    have k5 := (gN_iff _).1 (a (p.funs.map Fn.enc).length (by simp [sizes]))
    have k6 := (gN_iff _).1 (a (p.acts.map Ac.enc).length (by simp [sizes]))
    simp only [List.length_map] at k1 k2 k3 k4 k5 k6
    have m1 := h1.2
    have m2 := h2.2
    have m3 := h3.2
    have m4 := h4.2
    have m5 := h5.2
    have m6 := h6.2
    simp only [sizes, List.length_map, List.mem_cons, List.not_mem_nil, or_false] at hn
    rcases hn with rfl | rfl | rfl | rfl | rfl | rfl <;> omega
  · unfold gH at b ⊢
    rw [h0, h0']
    exact b
theorem tupL (xs : List PV) (k : Int) : (Sh.tup [Sh.lst, Sh.int .i64]).fits (.tup [.lst xs, .int .i64 k]) = true := nrfl rfl
theorem tup0 (xs : List PV) (k : Int) : ((PV.tup [.lst xs, .int .i64 k]).r 0).toLst = xs := nrfl rfl
theorem tup1 (xs : List PV) (k : Int) : ((PV.tup [.lst xs, .int .i64 k]).r 1).toInt = k := nrfl rfl
theorem pg_mk (p : Pg) : PV.agg [.str p.name, .int .i64 p.ver, .lst (p.uses.map Us.enc), .lst (p.datas.map Da.enc), .lst (p.traits.map eT), .lst (p.impls.map Im.enc), .lst (p.funs.map Fn.enc), .lst (p.acts.map Ac.enc)] = p.enc := nrfl rfl
theorem v25 {p : Pg} (hb : Bytes p) (k : Int) : (∃ x, V 25 [.pv p.enc, .pv (.int .i64 k)] = some (.pv (.tup [x, .int .i64 4]), []) ∧ (Sh.tup [Sh.agg [Sh.str, Sh.int .i64, Sh.lst, Sh.lst, Sh.lst, Sh.lst, Sh.lst, Sh.lst], Sh.int .i64]).fits (.tup [x, .int .i64 4]) = true) ∨ ∃ q, LessP q p ∧ V 25 [.pv p.enc, .pv (.int .i64 k)] = some (.pv (.tup [q.enc, .int .i64 0]), []) := by
  have h0 := e25 p.name p.ver (p.uses.map Us.enc) (p.datas.map Da.enc) (p.traits.map eT) (p.impls.map Im.enc) (p.funs.map Fn.enc) (p.acts.map Ac.enc) k
  rw [pg_mk] at h0
  rw [h0]
  cases decide (k < 0) with
  | true => exact .inl ⟨_, rfl, rfl⟩
  | false =>
    simp only [cond_false]
    rw [Pg.enc, e58]
    simp only [Option.bind_some, retPV_pv, fits_i64, toInt_int, cond_true]
    generalize decide (k ≥ _) = b
    cases b with
    | true => exact .inl ⟨_, rfl, rfl⟩
    | false =>
      simp only [cond_false]
      obtain ⟨l1, k1, a1, b1⟩ := w59 hb.uses k
      obtain ⟨l2, k2, a2, b2⟩ := w60 hb.datas k1
      obtain ⟨l3, k3, a3, b3⟩ := w61 hb.traits k2
      obtain ⟨l4, k4, a4, b4⟩ := w62 hb.impls k3
      obtain ⟨l5, k5, a5, b5⟩ := w63 hb.funs k4
      obtain ⟨l6, k6, a6, b6⟩ := w64 hb.acts k5
      rw [a1]
      simp only [Option.bind_some, retPV_pv, tupL, tup0, tup1, cond_true]
      rw [a2]
      simp only [Option.bind_some, retPV_pv, tupL, tup0, tup1, cond_true]
      rw [a3]
      simp only [Option.bind_some, retPV_pv, tupL, tup0, tup1, cond_true]
      rw [a4]
      simp only [Option.bind_some, retPV_pv, tupL, tup0, tup1, cond_true]
      rw [a5]
      simp only [Option.bind_some, retPV_pv, tupL, tup0, tup1, cond_true]
      rw [a6]
      simp only [Option.bind_some, retPV_pv, tupL, tup0, tup1, cond_true]
      exact .inr ⟨⟨p.name, p.ver, l1, l2, l3, l4, l5, l6⟩, ⟨rfl, rfl, b1, b2, b3, b4, b5, b6⟩, rfl⟩
theorem law8 {p : Pg} (hp : OkPg p) (hb : Bytes p) (k : Int) : V 8 [.pv p.enc, .pv (.int .i64 k)] = some (.pv (.bool true), []) := by
  have h0 := e8 p.name p.ver (p.uses.map Us.enc) (p.datas.map Da.enc) (p.traits.map eT) (p.impls.map Im.enc) (p.funs.map Fn.enc) (p.acts.map Ac.enc) k
  rw [pg_mk] at h0
  rw [h0, v14]
  simp only [Option.bind_some, retPV_pv, fits_bool, toBool_bool, cond_true, Bool.not_true, cond_false]
  rcases v25 hb k with ⟨x, h1, h2⟩ | ⟨q, hq, h1⟩
  · rw [h1]
    simp only [Option.bind_some, retPV_pv, h2, cond_true]
    rfl
  · rw [h1]
    simp only [Option.bind_some, retPV_pv]
    rw [show (Sh.tup [Sh.agg [Sh.str, Sh.int .i64, Sh.lst, Sh.lst, Sh.lst, Sh.lst, Sh.lst, Sh.lst], Sh.int .i64]).fits (.tup [q.enc, .int .i64 0]) = true from rfl, show ((PV.tup [q.enc, .int .i64 0]).r 1).toInt = 0 from rfl, show ((0 : Int) != 0) = false from rfl]
    simp only [cond_true, cond_false]
    obtain ⟨n, hn⟩ := (v26 hp).1
    rw [hn]
    simp only [Option.bind_some, retPV_pv, fits_i64, toInt_int, cond_true]
    by_cases h3 : n = 0
    · subst h3
      rw [show ((0 : Int) != 0) = false from rfl]
      simp only [cond_false]
      have hz := hq.right hp hn
      rw [show PV.agg [.str (((PV.tup [q.enc, .int .i64 0]).r 0).c 0).toStr, .int .i64 (((PV.tup [q.enc, .int .i64 0]).r 0).c 1).toInt, .lst (((PV.tup [q.enc, .int .i64 0]).r 0).c 2).toLst, .lst (((PV.tup [q.enc, .int .i64 0]).r 0).c 3).toLst, .lst (((PV.tup [q.enc, .int .i64 0]).r 0).c 4).toLst, .lst (((PV.tup [q.enc, .int .i64 0]).r 0).c 5).toLst, .lst (((PV.tup [q.enc, .int .i64 0]).r 0).c 6).toLst, .lst (((PV.tup [q.enc, .int .i64 0]).r 0).c 7).toLst] = q.enc from rfl, hz]
      rfl
    · rw [show (n != 0) = true from by simpa using h3]
      rfl
end Go.AL.S6
