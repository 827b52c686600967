/- Operations that depend on their operands alone: all of them together. -/
import Derived.Test.YtlmodlihiglnhaaALk
set_option linter.unusedVariables false
set_option linter.unusedSimpArgs false
namespace Go.AL
open Go.RowKit

section
variable {P : Program} {av : Av} {ty : TypeId}

theorem rep_empty (M : Mem) (A : Option Addr) (c : Nat) (h : 0 < c → A ≠ none) : PRep M (.lst []) (.slice A 0 c) :=
  .lst [] A c 1 (fun _ _ => undef) (by omega) (by simp) (by simp) (by simp) h (by simp) (by simp)

theorem headOk_all {M : Mem} {xs : List PV} {u : Value} {sz : Nat} (h : PRep M (.lst xs) u) (hh : headOk sz xs = true) : ∀ x, x ∈ xs → x.cells.length = sz := by
  obtain ⟨s, hs⟩ := rep_stride h
  cases xs with
  | nil => intro x hx; cases hx
  | cons a xs =>
    have := beq_eq hh
    intro x hx
    rw [hs x hx, ← hs a (by simp), this]

theorem rep_slice {M : Mem} {xs : List PV} {A : Option Addr} {n c : Nat} {lo hi : Option Int} {sz : Nat} (h : PRep M (.lst xs) (.slice A n c)) (hs : ∀ x, x ∈ xs → x.cells.length = sz) (hb : okB n lo hi) :
    PRep M (.lst ((xs.take (hi0 hi n)).drop (lo0 lo))) (.slice (if c = lo0 lo then A else A.map (·.add (lo0 lo * sz))) (hi0 hi n - lo0 lo) (c - lo0 lo)) := by
  obtain ⟨rfl, hc⟩ := rep_cap h
  obtain ⟨h1, h2, h3⟩ := hb
  have hh : hi0 hi xs.length ≤ xs.length := by unfold hi0; omega
  have hl : lo0 lo ≤ hi0 hi xs.length := by unfold hi0 lo0; omega
  by_cases he : c = lo0 lo
  · have e1 : hi0 hi xs.length - lo0 lo = 0 := by omega
    have e2 : (xs.take (hi0 hi xs.length)).drop (lo0 lo) = [] := by apply List.drop_eq_nil_of_le; simp; omega
    rw [e1, e2]
    exact rep_empty _ _ _ (by omega)
  · rw [if_neg he]
    have := rep_drop h (lo0 lo) (hi0 hi xs.length) sz hs (c - lo0 lo) (by omega) hh (by omega) (by omega)
    rw [Nat.min_eq_left hh] at this
    exact this

theorem s_slice (hT : TOk P) {t e : TypeId} {z : PV} {y : Operand} {lo hi : Option Operand} {l h : Option Int} {b : AV} {xs : List PV} (hu : elemT P t = some e) (hz : zeroPV P e = some z) (hy : av y = some b) (hl : bound av lo = some l) (hh : bound av hi = some h)
    (hlist : b.list = some xs) (hok : headOk (sizeT P e) xs = true) (hb : okB xs.length l h) : Sound1 P (.slice t y lo hi none) ty av (.pv (.lst ((xs.take (hi0 h xs.length)).drop (lo0 l)))) := by
  refine .val fun G st a w o _ hA ho _ => ?_
  obtain ⟨i, hi', zv, _⟩ := zero_size hT hz
  have hr := list_rel (hA y b hy) hlist
  obtain ⟨A, c, e1⟩ := rep_lst hr
  rw [e1] at hr
  have hrun := run_slice hu hi' hA e1 (rep_cap hr).2 hl hh hb w ho
  refine ⟨_, hrun, ?_⟩
  have := rep_slice hr (headOk_all hr hok) hb
  rw [show sizeT P e = i.size by simp [sizeT, hi']] at this
  exact this

theorem s_slice_bld (hT : TOk P) {t e : TypeId} {z : PV} {y : Operand} {lo : Option Operand} {l : Option Int} {j v : Nat} {xs : List PV} (hu : elemT P t = some e) (hz : zeroPV P e = some z) (hy : av y = some (.bld j v xs)) (hl : bound av lo = some l)
    (hok : headOk (sizeT P e) xs = true) (hb : okB xs.length l none) : Sound1 P (.slice t y lo none none) ty av (.bld j v (xs.drop (lo0 l))) := by
  refine .val fun G st a w o _ hA ho _ => ?_
  obtain ⟨i, hi', zv, _⟩ := zero_size hT hz
  obtain ⟨g1, hr, g2⟩ := hA y _ hy
  obtain ⟨A, c, e1⟩ := rep_lst hr
  rw [e1] at hr g2
  have hs := headOk_all hr hok
  have hsz : sizeT P e = i.size := by simp [sizeT, hi']
  have hrun := run_slice (hi := none) (h := none) hu hi' hA e1 (rep_cap hr).2 hl rfl hb w ho
  have h1 := rep_slice hr hs hb
  have hfull : hi0 none xs.length = xs.length := by simp [hi0]
  rw [hfull, List.take_length] at h1
  rw [hfull] at hrun
  rw [hsz] at h1 hs
  refine ⟨_, hrun, g1, h1, fun cur hc => ⟨(g2 cur hc).1, fun hv => ?_⟩⟩
  obtain ⟨⟨A', k1, k2⟩, k3⟩ := (g2 cur hc).2 hv
  injection k1 with k1 k1' k1''
  subst k1
  have hlo : lo0 l ≤ xs.length := by
    obtain ⟨q1, q2, q3⟩ := hb
    unfold lo0; simp at q2; omega
  have hlen : (xs.drop (lo0 l)).length = xs.length - lo0 l := by simp
  refine ⟨⟨if c = lo0 l then A else A.map (·.add (lo0 l * i.size)), by rw [hlen]; congr 1; omega, fun hpos => ?_⟩, fun x hx => k3 x (List.mem_of_mem_drop hx)⟩
  rw [hlen] at hpos ⊢
  have hne : ¬ (c = lo0 l) := by omega
  rw [if_neg hne, ← k2 (by omega)]
  have hτ : xs ≠ [] → (G.τ j).sz = i.size := fun hne => by
    obtain ⟨x, hx⟩ := List.exists_mem_of_ne_nil _ hne
    rw [← k3 x hx, hs x hx]
  cases A with
  | none => rfl
  | some ad =>
    simp only [Option.map_some, Option.some.injEq]
    rw [Addr.add_add]
    by_cases hx : xs = []
    · subst hx
      simp at hlo
      simp [hlo]
    · rw [hτ hx, ← Nat.add_mul, show lo0 l + (xs.length - lo0 l) = xs.length by omega]

theorem isAgg_some {s : Sh} {n : Nat} (h : s.isAgg = some n) : ∃ l, s = .agg l ∧ l.length = n := by
  cases s <;> simp [Sh.isAgg] at h
  exact ⟨_, rfl, h⟩
theorem isAgg_none {s : Sh} (h : s.isAgg = none) : ∀ l, s ≠ .agg l := by
  intro l e; subst e; cases h

theorem run_isAgg_true {t : TypeId} {d : TypeDesc} (h : P.underlying t = some d) (hd : (∃ fs, d = .struct fs) ∨ ∃ n e, d = .array n e) (w : World) : (isAgg t).run P w = .ok true w := by
  rcases hd with ⟨fs, rfl⟩ | ⟨n, e, rfl⟩ <;> simp [isAgg, run_underlying h]
theorem run_isAgg_false {t : TypeId} {d : TypeDesc} (h : P.underlying t = some d) (h1 : ∀ fs, d ≠ .struct fs) (h2 : ∀ n e, d ≠ .array n e) (w : World) : (isAgg t).run P w = .ok false w := by
  unfold isAgg
  simp only [Sem.run_bind, run_underlying h, Result.andThen_ok]
  cases d <;> first | rfl | exact absurd rfl (h1 _) | exact absurd rfl (h2 _ _)

theorem s_field (hT : TOk P) {t : TypeId} {y : Operand} {i : Nat} {fs : Array Field} {fd : Field} {cs : List PV} {z : PV} (hu : P.underlying t = some (.struct fs)) (hf : fs[i]? = some fd) (hy : av y = some (.pv (.agg cs))) (hz : zeroPV P fd.type = some z) :
    (∀ n, (shOf P fd.type).isAgg = some n → fd.offset + n ≤ cs.length → Sound1 P (.field t y i) ty av (.pv (.agg ((cs.drop fd.offset).take n)))) ∧
    (∀ c, (shOf P fd.type).isAgg = none → cs[fd.offset]? = some c → Sound1 P (.field t y i) ty av (.pv c)) := by
  refine ⟨fun n hn hle => .val fun G st a w o _ hA ho _ => ?_, fun c hn hc => .val fun G st a w o _ hA ho _ => ?_⟩
  · obtain ⟨l, hl, rfl⟩ := isAgg_some hn
    obtain ⟨j, d, hj, hsz, hd1, hd2, _⟩ := shOf_agg hT hl
    have hr := hA y _ hy
    generalize he : a.eval y = u at hr
    cases hr with
    | agg cs vs hvl hone hrr =>
      refine ⟨.agg (vs.toArray.extract fd.offset (fd.offset + j.size)), ?_, ?_⟩
      · simp [execOp, ho, Instr.field, run_underlying hu, hf, he, asAgg, part, run_isAgg_true hd1 hd2, run_sizeOf' hj]
      · show PRep _ _ _
        have e : vs.toArray.extract fd.offset (fd.offset + j.size) = ((vs.drop fd.offset).take l.length).toArray := by
          apply Array.ext'
          simp [hsz, List.take_drop, Nat.add_comm]
        rw [e]
        refine .agg _ _ (by simp; omega) (fun q hq => hone q (List.mem_of_mem_drop (List.mem_of_mem_take hq))) fun k c v h1 h2 => ?_
        rw [List.getElem?_take] at h1 h2
        split at h1
        · rename_i hk
          rw [if_pos hk] at h2
          rw [List.getElem?_drop] at h1 h2
          exact hrr _ c v h1 h2
        · cases h1
  · have hz' : ∃ i zz, P.types[fd.type]? = some i ∧ i.zero = some zz := by obtain ⟨i, h1, zz, h2⟩ := zero_size hT hz; exact ⟨i, zz, h1, h2⟩
    obtain ⟨j, d, hj, hsz, hd1, hd2, hd3, _⟩ := shOf_one hT (isAgg_none hn) hz'
    have hr := hA y _ hy
    generalize he : a.eval y = u at hr
    cases hr with
    | agg cs vs hvl hone hrr =>
      have hlt : fd.offset < vs.length := by rw [hvl]; exact (List.getElem?_eq_some_iff.1 hc).1
      refine ⟨vs[fd.offset], ?_, hrr _ c _ hc (List.getElem?_eq_getElem hlt)⟩
      simp [execOp, ho, Instr.field, run_underlying hu, hf, he, asAgg, part, run_isAgg_false hd1 hd2 hd3, hlt]

theorem s_max2 {c : Call} {y z : Operand} {k k' : IntKind} {m n : Int} (hc : c.callee = .builtin .max) (ha : c.args = #[y, z]) (hy : av y = some (.pv (.int k m))) (hz : av z = some (.pv (.int k' n))) :
    Sound1 P (.call c) ty av (.pv (.int k (bif decide (n > m) then n else m))) := by
  refine .val fun G st a w o _ hA ho _ => ⟨_, ?_, PRep.int _ _⟩
  have e1 := rep_int (hA y _ hy)
  have e2 := rep_int (hA z _ hz)
  simp [execOp, ho, resolve, hc, ha, invoke, builtin, Builtin.max_, Builtin.max2, e1, e2, cond_eq_ite]
theorem s_max3 {c : Call} {y z x : Operand} {k k' k'' : IntKind} {m n q : Int} (hc : c.callee = .builtin .max) (ha : c.args = #[y, z, x]) (hy : av y = some (.pv (.int k m))) (hz : av z = some (.pv (.int k' n))) (hx : av x = some (.pv (.int k'' q))) :
    Sound1 P (.call c) ty av (.pv (.int k (bif decide (q > (bif decide (n > m) then n else m)) then q else (bif decide (n > m) then n else m)))) := by
  refine .val fun G st a w o _ hA ho _ => ⟨_, ?_, PRep.int _ _⟩
  have e1 := rep_int (hA y _ hy)
  have e2 := rep_int (hA z _ hz)
  have e3 := rep_int (hA x _ hx)
  simp [execOp, ho, resolve, hc, ha, invoke, builtin, Builtin.max_, Builtin.max2, e1, e2, e3, cond_eq_ite]
theorem s_min2 {c : Call} {y z : Operand} {k k' : IntKind} {m n : Int} (hc : c.callee = .builtin .min) (ha : c.args = #[y, z]) (hy : av y = some (.pv (.int k m))) (hz : av z = some (.pv (.int k' n))) :
    Sound1 P (.call c) ty av (.pv (.int k (bif decide (n < m) then n else m))) := by
  refine .val fun G st a w o _ hA ho _ => ⟨_, ?_, PRep.int _ _⟩
  have e1 := rep_int (hA y _ hy)
  have e2 := rep_int (hA z _ hz)
  simp [execOp, ho, resolve, hc, ha, invoke, builtin, Builtin.min_, Builtin.min2, e1, e2, cond_eq_ite]
end
end Go.AL
