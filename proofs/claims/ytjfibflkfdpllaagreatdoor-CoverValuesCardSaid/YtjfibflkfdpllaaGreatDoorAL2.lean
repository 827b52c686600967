/- The abstract machine, its soundness, and what a row needs of it: part 2. -/
import Derived.Test.YtjfibflkfdpllaaGreatDoorAL1
import Derived.Lib.ConvBytes
import Derived.Laws.BytesArg
import Derived.Laws.CopyRow
import Derived.DataReads
import Derived.Deep.DeepAppendWide
/- Operations that depend on their operands alone: all of them together. -/
set_option linter.unusedVariables false
set_option linter.unusedSimpArgs false
namespace Go.AL
open Go.RowKit

section
variable {P : Program} {av : Av} {ty : TypeId}

theorem rep_empty (M : Mem) (A : Option Addr) (c : Nat) (h : 0 < c → A ≠ none) : PRep M (.lst []) (.slice A 0 c) :=
  .lst [] A c 1 (fun _ _ => undef) (by omega) (by simp) (by simp) (by simp) h (by simp) (by simp)

theorem headOk_all {M : Mem} {xs : List PV} {u : Value} {sz : Nat} (h : PRep M (.lst xs) u) (hh : headOk sz xs = true) : ∀ x, x ∈ xs → x.cells.length = sz := by
  obtain ⟨s, hs⟩ := rep_stride h
  cases xs with
  | nil => intro x hx; cases hx
  | cons a xs =>
    have := beq_eq hh
    intro x hx
    rw [hs x hx, ← hs a (by simp), this]

theorem rep_slice {M : Mem} {xs : List PV} {A : Option Addr} {n c : Nat} {lo hi : Option Int} {sz : Nat} (h : PRep M (.lst xs) (.slice A n c)) (hs : ∀ x, x ∈ xs → x.cells.length = sz) (hb : okB n lo hi) :
    PRep M (.lst ((xs.take (hi0 hi n)).drop (lo0 lo))) (.slice (if c = lo0 lo then A else A.map (·.add (lo0 lo * sz))) (hi0 hi n - lo0 lo) (c - lo0 lo)) := by
  obtain ⟨rfl, hc⟩ := rep_cap h
  obtain ⟨h1, h2, h3⟩ := hb
  have hh : hi0 hi xs.length ≤ xs.length := by unfold hi0; omega
  have hl : lo0 lo ≤ hi0 hi xs.length := by unfold hi0 lo0; omega
  by_cases he : c = lo0 lo
  · have e1 : hi0 hi xs.length - lo0 lo = 0 := by omega
    have e2 : (xs.take (hi0 hi xs.length)).drop (lo0 lo) = [] := by apply List.drop_eq_nil_of_le; simp; omega
    rw [e1, e2]
    exact rep_empty _ _ _ (by omega)
  · rw [if_neg he]
    have := rep_drop h (lo0 lo) (hi0 hi xs.length) sz hs (c - lo0 lo) (by omega) hh (by omega) (by omega)
    rw [Nat.min_eq_left hh] at this
    exact this

theorem s_slice (hT : TOk P) {t e : TypeId} {z : PV} {y : Operand} {lo hi : Option Operand} {l h : Option Int} {b : AV} {xs : List PV} (hu : elemT P t = some e) (hz : zeroPV P e = some z) (hy : av y = some b) (hl : bound av lo = some l) (hh : bound av hi = some h)
    (hlist : b.list = some xs) (hok : headOk (sizeT P e) xs = true) (hb : okB xs.length l h) : Sound1 P (.slice t y lo hi none) ty av (.pv (.lst ((xs.take (hi0 h xs.length)).drop (lo0 l)))) := by
  refine .val fun G st a w o _ hA ho _ => ?_
  obtain ⟨i, hi', zv, _⟩ := zero_size hT hz
  have hr := list_rel (hA y b hy) hlist
  obtain ⟨A, c, e1⟩ := rep_lst hr
  rw [e1] at hr
  have hrun := run_slice hu hi' hA e1 (rep_cap hr).2 hl hh hb w ho
  refine ⟨_, hrun, ?_⟩
  have := rep_slice hr (headOk_all hr hok) hb
  rw [show sizeT P e = i.size by simp [sizeT, hi']] at this
  exact this

theorem s_slice_bld (hT : TOk P) {t e : TypeId} {z : PV} {y : Operand} {lo : Option Operand} {l : Option Int} {j v : Nat} {xs : List PV} (hu : elemT P t = some e) (hz : zeroPV P e = some z) (hy : av y = some (.bld j v xs)) (hl : bound av lo = some l)
    (hok : headOk (sizeT P e) xs = true) (hb : okB xs.length l none) : Sound1 P (.slice t y lo none none) ty av (.bld j v (xs.drop (lo0 l))) := by
  refine .val fun G st a w o _ hA ho _ => ?_
  obtain ⟨i, hi', zv, _⟩ := zero_size hT hz
  obtain ⟨g1, hr, g2⟩ := hA y _ hy
  obtain ⟨A, c, e1⟩ := rep_lst hr
  rw [e1] at hr g2
  have hs := headOk_all hr hok
  have hsz : sizeT P e = i.size := by simp [sizeT, hi']
  have hrun := run_slice (hi := none) (h := none) hu hi' hA e1 (rep_cap hr).2 hl rfl hb w ho
  have h1 := rep_slice hr hs hb
  have hfull : hi0 none xs.length = xs.length := by simp [hi0]
  rw [hfull, List.take_length] at h1
  rw [hfull] at hrun
  rw [hsz] at h1 hs
  refine ⟨_, hrun, g1, h1, fun cur hc => ⟨(g2 cur hc).1, fun hv => ?_⟩⟩
  obtain ⟨⟨A', k1, k2⟩, k3⟩ := (g2 cur hc).2 hv
  injection k1 with k1 k1' k1''
  subst k1
  have hlo : lo0 l ≤ xs.length := by
    obtain ⟨q1, q2, q3⟩ := hb
    unfold lo0; simp at q2; omega
  have hlen : (xs.drop (lo0 l)).length = xs.length - lo0 l := by simp
  refine ⟨⟨if c = lo0 l then A else A.map (·.add (lo0 l * i.size)), by rw [hlen]; congr 1; omega, fun hpos => ?_⟩, fun x hx => k3 x (List.mem_of_mem_drop hx)⟩
  rw [hlen] at hpos ⊢
  have hne : ¬ (c = lo0 l) := by omega
  rw [if_neg hne, ← k2 (by omega)]
  have hτ : xs ≠ [] → (G.τ j).sz = i.size := fun hne => by
    obtain ⟨x, hx⟩ := List.exists_mem_of_ne_nil _ hne
    rw [← k3 x hx, hs x hx]
  cases A with
  | none => rfl
  | some ad =>
    simp only [Option.map_some, Option.some.injEq]
    rw [Addr.add_add]
    by_cases hx : xs = []
    · subst hx
      simp at hlo
      simp [hlo]
    · rw [hτ hx, ← Nat.add_mul, show lo0 l + (xs.length - lo0 l) = xs.length by omega]

theorem isAgg_some {s : Sh} {n : Nat} (h : s.isAgg = some n) : ∃ l, s = .agg l ∧ l.length = n := by
  cases s <;> simp [Sh.isAgg] at h
  exact ⟨_, rfl, h⟩
theorem isAgg_none {s : Sh} (h : s.isAgg = none) : ∀ l, s ≠ .agg l := by
  intro l e; subst e; cases h

theorem run_isAgg_true {t : TypeId} {d : TypeDesc} (h : P.underlying t = some d) (hd : (∃ fs, d = .struct fs) ∨ ∃ n e, d = .array n e) (w : World) : (isAgg t).run P w = .ok true w := by
  rcases hd with ⟨fs, rfl⟩ | ⟨n, e, rfl⟩ <;> simp [isAgg, run_underlying h]
theorem run_isAgg_false {t : TypeId} {d : TypeDesc} (h : P.underlying t = some d) (h1 : ∀ fs, d ≠ .struct fs) (h2 : ∀ n e, d ≠ .array n e) (w : World) : (isAgg t).run P w = .ok false w := by
  unfold isAgg
  simp only [Sem.run_bind, run_underlying h, Result.andThen_ok]
  cases d <;> first | rfl | exact absurd rfl (h1 _) | exact absurd rfl (h2 _ _)

theorem s_field (hT : TOk P) {t : TypeId} {y : Operand} {i : Nat} {fs : Array Field} {fd : Field} {cs : List PV} {z : PV} (hu : P.underlying t = some (.struct fs)) (hf : fs[i]? = some fd) (hy : av y = some (.pv (.agg cs))) (hz : zeroPV P fd.type = some z) :
    (∀ n, (shOf P fd.type).isAgg = some n → fd.offset + n ≤ cs.length → Sound1 P (.field t y i) ty av (.pv (.agg ((cs.drop fd.offset).take n)))) ∧
    (∀ c, (shOf P fd.type).isAgg = none → cs[fd.offset]? = some c → Sound1 P (.field t y i) ty av (.pv c)) := by
  refine ⟨fun n hn hle => .val fun G st a w o _ hA ho _ => ?_, fun c hn hc => .val fun G st a w o _ hA ho _ => ?_⟩
  · obtain ⟨l, hl, rfl⟩ := isAgg_some hn
    obtain ⟨j, d, hj, hsz, hd1, hd2, _⟩ := shOf_agg hT hl
    have hr := hA y _ hy
    generalize he : a.eval y = u at hr
    cases hr with
    | agg cs vs hvl hone hrr =>
      refine ⟨.agg (vs.toArray.extract fd.offset (fd.offset + j.size)), ?_, ?_⟩
      · simp [execOp, ho, Instr.field, run_underlying hu, hf, he, asAgg, part, run_isAgg_true hd1 hd2, run_sizeOf' hj]
      · show PRep _ _ _
        have e : vs.toArray.extract fd.offset (fd.offset + j.size) = ((vs.drop fd.offset).take l.length).toArray := by
          apply Array.ext'
          simp [hsz, List.take_drop, Nat.add_comm]
        rw [e]
        refine .agg _ _ (by simp; omega) (fun q hq => hone q (List.mem_of_mem_drop (List.mem_of_mem_take hq))) fun k c v h1 h2 => ?_
        rw [List.getElem?_take] at h1 h2
        split at h1
        · rename_i hk
          rw [if_pos hk] at h2
          rw [List.getElem?_drop] at h1 h2
          exact hrr _ c v h1 h2
        · cases h1
  · have hz' : ∃ i zz, P.types[fd.type]? = some i ∧ i.zero = some zz := by obtain ⟨i, h1, zz, h2⟩ := zero_size hT hz; exact ⟨i, zz, h1, h2⟩
    obtain ⟨j, d, hj, hsz, hd1, hd2, hd3, _⟩ := shOf_one hT (isAgg_none hn) hz'
    have hr := hA y _ hy
    generalize he : a.eval y = u at hr
    cases hr with
    | agg cs vs hvl hone hrr =>
      have hlt : fd.offset < vs.length := by rw [hvl]; exact (List.getElem?_eq_some_iff.1 hc).1
      refine ⟨vs[fd.offset], ?_, hrr _ c _ hc (List.getElem?_eq_getElem hlt)⟩
      simp [execOp, ho, Instr.field, run_underlying hu, hf, he, asAgg, part, run_isAgg_false hd1 hd2 hd3, hlt]

theorem s_max2 {c : Call} {y z : Operand} {k k' : IntKind} {m n : Int} (hc : c.callee = .builtin .max) (ha : c.args = #[y, z]) (hy : av y = some (.pv (.int k m))) (hz : av z = some (.pv (.int k' n))) :
    Sound1 P (.call c) ty av (.pv (.int k (bif decide (n > m) then n else m))) := by
  refine .val fun G st a w o _ hA ho _ => ⟨_, ?_, PRep.int _ _⟩
  have e1 := rep_int (hA y _ hy)
  have e2 := rep_int (hA z _ hz)
  simp [execOp, ho, resolve, hc, ha, invoke, builtin, Builtin.max_, Builtin.max2, e1, e2, cond_eq_ite]
theorem s_max3 {c : Call} {y z x : Operand} {k k' k'' : IntKind} {m n q : Int} (hc : c.callee = .builtin .max) (ha : c.args = #[y, z, x]) (hy : av y = some (.pv (.int k m))) (hz : av z = some (.pv (.int k' n))) (hx : av x = some (.pv (.int k'' q))) :
    Sound1 P (.call c) ty av (.pv (.int k (bif decide (q > (bif decide (n > m) then n else m)) then q else (bif decide (n > m) then n else m)))) := by
  refine .val fun G st a w o _ hA ho _ => ⟨_, ?_, PRep.int _ _⟩
  have e1 := rep_int (hA y _ hy)
  have e2 := rep_int (hA z _ hz)
  have e3 := rep_int (hA x _ hx)
  simp [execOp, ho, resolve, hc, ha, invoke, builtin, Builtin.max_, Builtin.max2, e1, e2, e3, cond_eq_ite]
theorem s_min2 {c : Call} {y z : Operand} {k k' : IntKind} {m n : Int} (hc : c.callee = .builtin .min) (ha : c.args = #[y, z]) (hy : av y = some (.pv (.int k m))) (hz : av z = some (.pv (.int k' n))) :
    Sound1 P (.call c) ty av (.pv (.int k (bif decide (n < m) then n else m))) := by
  refine .val fun G st a w o _ hA ho _ => ⟨_, ?_, PRep.int _ _⟩
  have e1 := rep_int (hA y _ hy)
  have e2 := rep_int (hA z _ hz)
  simp [execOp, ho, resolve, hc, ha, invoke, builtin, Builtin.min_, Builtin.min2, e1, e2, cond_eq_ite]
end
end Go.AL

/- Conversions; and all operations that depend on their operands alone, together. -/
set_option linter.unusedVariables false
set_option linter.unusedSimpArgs false
namespace Go.AL
open Go.RowKit

section
variable {F : Fr} {w0 : World} {M0 : Mem} {G : Gh} {s : St} {w w' : World}

theorem below_cell (hb : Below w.heap.size w w') {a : Addr} (ha : a.block < w.heap.size) : w'.cell? a = w.cell? a := by
  simp only [World.cell?, hb.block a.block ha]

/-- A world that has more blocks. -/
theorem SRel.grow (h : SRel F w0 M0 G s w) (hb : Below w.heap.size w w') : SRel F w0 M0 G s w' where
  os := hb.os.trans h.os
  tape := hb.tape.trans h.tape
  output := hb.output.trans h.output
  size := Nat.le_trans h.size hb.size
  old k hk hF := by rw [hb.block k (Nat.lt_of_lt_of_le hk h.size)]; exact h.old k hk hF
  agree a v hM := by rw [below_cell hb (M_lt h hM)]; exact h.agree a v hM
  base := h.base
  lay := h.lay
  newM := h.newM
  own b hb' := ⟨Nat.lt_of_lt_of_le (h.own b hb').1 hb.size, (h.own b hb').2⟩
  ownM := h.ownM
  bx i z cs b h1 h2 := by
    obtain ⟨q1, q2, q3, o, q4, q5⟩ := h.bx i z cs b h1 h2
    exact ⟨q1, Nat.lt_of_lt_of_le q2 hb.size, q3, o, by rw [hb.block b q2]; exact q4, q5⟩
  vc i ver sz xs h1 := by
    obtain ⟨q0, q1, q2⟩ := h.vc i ver sz xs h1
    refine ⟨q0, q1, ?_⟩
    rcases q2 with q2 | ⟨b, o, vs, T, g1, g2, g3, g4⟩
    · exact .inl q2
    · exact .inr ⟨b, o, vs, T, g1, g2, by rw [hb.block b (h.own b (by rw [g2]; simp)).1]; exact g3, g4⟩
  tp i e h1 := by
    obtain ⟨q0, q2⟩ := h.tp i e h1
    refine ⟨q0, ?_⟩
    rcases q2 with q2 | ⟨b, o, vs, T, g1, g2, g3, g4⟩
    · exact .inl q2
    · exact .inr ⟨b, o, vs, T, g1, g2, by rw [hb.block b (h.own b (by rw [g2]; simp)).1]; exact g3, g4⟩
  rt := h.rt
  rv := h.rv

theorem SRel.newPlainAt (h : SRel F w0 M0 G s w) (hb : Below w.heap.size w w') {xs : List PV} {sz : Nat} (hsz : 0 < sz) (hs : ∀ x, x ∈ xs → x.cells.length = sz) (vs : Nat → Value)
    (hc : ∀ (i : Nat) p, (flat xs)[i]? = some p → w'.cell? ⟨w.heap.size, i, none⟩ = some (vs i) ∧ PRep G.M p (vs i) ∧ p.one = true) (cap : Nat) (hcap : xs.length ≤ cap) :
    ∃ G', SRel F w0 M0 G' s w' ∧ Ext G s G' s ∧ PRep G'.M (.lst xs) (.slice (some ⟨w.heap.size, 0, none⟩) xs.length cap) := by
  let M' : Mem := fun a => if a.block = w.heap.size ∧ a.spot = none ∧ a.off < (flat xs).length then some (vs a.off) else G.M a
  have hM : G.M.le M' := fun a v e => by
    have := M_lt h e
    simp only [M']
    rw [if_neg (by omega)]; exact e
  have hM2 : ∀ a v, M' a = some v → G.M a = some v ∨ a.block = w.heap.size := fun a v e => by
    simp only [M'] at e
    split at e
    · rename_i hcnd; exact .inr hcnd.1
    · exact .inl e
  have ha := h.grow hb
  have he := Ext.mem s hM
  refine ⟨{ G with M := M' }, ⟨ha.os, ha.tape, ha.output, ha.size, ha.old, ?_, Mem.le_trans h.base hM, h.lay, ?_, ha.own, ?_, ?_, ?_, ha.tp, ha.rt, ha.rv⟩, he, ?_⟩
  · intro a v e
    simp only [M'] at e
    split at e
    · rename_i hcnd
      obtain ⟨b, off, spot⟩ := a
      obtain ⟨rfl, rfl, h3⟩ := hcnd
      obtain rfl := Option.some.inj e
      exact (hc off _ (List.getElem?_eq_getElem h3)).1
    · exact ha.agree a v e
  · intro a v e
    rcases hM2 a v e with e | e
    · exact h.newM a v e
    · exact .inr (.inl (by rw [e]; exact h.size))
  · intro a v e
    rcases hM2 a v e with e | e
    · exact h.ownM a v e
    · left
      rw [e]
      cases ho : G.own w.heap.size with
      | free => rfl
      | _ => have := (h.own w.heap.size (by rw [ho]; simp)).1; omega
  · intro i z cs b h1 h2
    obtain ⟨q1, q2, q3, us, q4, q5⟩ := ha.bx i z cs b h1 h2
    exact ⟨q1, q2, q3, us, q4, q5.ext he⟩
  · intro i ver sz ys h1
    obtain ⟨q0, q1, q2⟩ := ha.vc i ver sz ys h1
    refine ⟨q0, q1, ?_⟩
    rcases q2 with q2 | ⟨b, o, us, T', k1, k2, k3, k4, k5, k6⟩
    · exact .inl q2
    · exact .inr ⟨b, o, us, T', k1, k2, k3, k4, k5, fun j x k y e1 e2 => by obtain ⟨v, e3, e4⟩ := k6 j x k y e1 e2; exact ⟨v, e3, e4.mono hM⟩⟩
  · have hget : ∀ {i : Nat} {y : PV}, (flat xs)[i]? = some y → M' ⟨w.heap.size, i, none⟩ = some (vs i) ∧ PRep M' y (vs i) := by
      intro i y hy
      have hi : i < (flat xs).length := (List.getElem?_eq_some_iff.1 hy).1
      refine ⟨?_, (hc i y hy).2.1.mono hM⟩
      show (if w.heap.size = w.heap.size ∧ (none : Option Nat) = none ∧ i < (flat xs).length then some (vs i) else _) = _
      rw [if_pos ⟨rfl, rfl, hi⟩]
    refine .lst xs _ cap sz (fun j k => vs (j * sz + k)) hsz hcap hs ?_ (by simp) ?_ ?_
    · intro x hx y hy
      obtain ⟨j, hj, rfl⟩ := List.mem_iff_getElem.1 hx
      obtain ⟨k, hk, rfl⟩ := List.mem_iff_getElem.1 hy
      exact (hc _ _ (flat_get hs (List.getElem?_eq_getElem hj) (List.getElem?_eq_getElem hk))).2.2
    · intro ad had j x k y h1 h2
      obtain rfl := Option.some.inj had
      rw [Addr.add_lit, Nat.zero_add]
      exact (hget (flat_get hs h1 h2)).1
    · intro j x k y h1 h2
      exact (hget (flat_get hs h1 h2)).2
end

section
variable {P : Program} {av : Av} {ty : TypeId}

theorem isStr_eq {d : Option TypeDesc} (h : isStr d = true) : d = some .string := by
  unfold isStr at h; split at h <;> first | rfl | cases h
theorem isU8_eq {d : Option TypeDesc} (h : isU8 d = true) : d = some (.int .u8) := by
  unfold isU8 at h; split at h <;> first | rfl | cases h

theorem flat_scalars {xs : List PV} (h : ∀ x, x ∈ xs → x.cells = [x]) : flat xs = xs := by
  induction xs with
  | nil => rfl
  | cons x xs ih => simp only [flat, List.flatMap_cons, h x (by simp)] at ih ⊢; rw [ih (fun y hy => h y (by simp [hy]))]; rfl

theorem run_bytes (w : World) {src dst e : TypeId} (hs : P.underlying src = some (.slice e)) (he : P.underlying e = some (.int .u8)) (hd : P.underlying dst = some .string) {A : Addr} {n c : Nat} {xs : List PV} (hl : xs.length = n)
    (hb : xs.all isByte = true) (hc : ∀ i p, xs[i]? = some p → ∃ u, w.cell? (A.add i) = some u ∧ ∃ M, PRep M p u) :
    (convert src dst (.slice (some A) n c)).run P w = .ok (.string (mkStr (xs.map toByte))) w := by
  have hcell : ∀ j v, (xs.map fun p => Value.int .u8 p.toInt)[j]? = some v → w.cell? (A.add j) = some v := by
    intro j v hv
    rw [List.getElem?_map] at hv
    cases hp : xs[j]? with
    | none => rw [hp] at hv; cases hv
    | some p =>
      rw [hp] at hv
      obtain rfl := Option.some.inj hv
      obtain ⟨u, h1, M, h2⟩ := hc j p hp
      have := List.all_eq_true.1 hb p (List.mem_of_getElem? hp)
      cases p <;> simp [isByte] at this
      rename_i k m
      cases k <;> simp at this
      rw [rep_int h2] at h1
      exact h1
  have hstr : strOfNums (xs.map PV.toInt) = mkStr (xs.map toByte) := by
    apply ByteArray.ext
    simp [strOfNums, mkStr, toByte]
  cases xs with
  | nil =>
    subst hl
    simp [convert, run_underlying hs, run_underlying hd, run_underlying he, Conv.bytesToString, loadCells, loadCellsFrom]
    rfl
  | cons x xs =>
    have hsp : A.spot = none := by
      have := hcell 0 _ rfl
      simp only [World.cell?, Addr.add_zero'] at this
      split at this
      · cases hA : A.spot with
        | none => rfl
        | some q => rw [hA] at this; simp at this
      · cases this
    obtain ⟨b, off, spot⟩ := A
    simp only at hsp
    subst hsp
    rw [← hstr]
    refine run_convert_bytes_arg w src e hs he b off n c _ (by simpa using hl) (fun i hi => ?_) dst hd
    have := hcell i (.int .u8 ((x :: xs)[i]'(by omega)).toInt) (by rw [List.getElem?_map, List.getElem?_eq_getElem (by omega)]; rfl)
    rw [Addr.add_lit] at this
    rw [this]
    have e : (List.map PV.toInt (x :: xs)).getD i 0 = ((x :: xs)[i]'(by omega)).toInt := by
      rw [List.getD_eq_getElem?_getD, List.getElem?_map, List.getElem?_eq_getElem (show i < (x :: xs).length by omega)]; rfl
    rw [e]

theorem s_conv (hT : TOk P) {ρ : Type} {src dst : TypeId} {y : Operand} {b : AV} {p : PV} (hy : av y = some b) (hp : ∀ G s u, ARel G s b u → PRep G.M p u) {K : PV → Option ρ} {r : ρ} (h : convPV P src dst p K = some r) :
    ∃ res, K res = some r ∧ Sound1 P (.convert src dst y) ty av (.pv res) := by
  unfold convPV at h
  split at h
  · rename_i d0 k k' n hs hd
    refine ⟨_, h, .val fun G st a w o _ hA ho _ => ⟨_, ?_, PRep.int _ _⟩⟩
    have := rep_int (hp G st _ (hA y b hy))
    simp [execOp, ho, convert, run_underlying hs, run_underlying hd, this, Conv.intToInt]
  · rename_i s hs hd
    refine ⟨_, h, .val fun G st a w o _ hA ho _ => ⟨_, ?_, PRep.str _⟩⟩
    have := rep_str (hp G st _ (hA y b hy))
    simp [execOp, ho, convert, run_underlying hs, run_underlying hd, this]
  · rename_i e xs hs hd
    cases hu : isU8 (P.underlying e) with
    | false => rw [hu] at h; cases h
    | true =>
      cases hb : xs.all isByte with
      | false => rw [hu, hb] at h; cases h
      | true =>
        rw [hu, hb] at h
        refine ⟨_, h, .val fun G st a w o hM hA ho _ => ⟨_, ?_, PRep.str _⟩⟩
        have hr := hp G st _ (hA y b hy)
        generalize hu' : a.eval y = u at hr
        cases hr with
        | lst xs A cap sz vs hsz hcap hss hone hA' hm hrr =>
          cases A with
          | none =>
            have : xs = [] := by cases xs with | nil => rfl | cons x xs => exact absurd rfl (hA' (by simp at hcap; omega))
            subst this
            have := run_convert_bytes_nil (P := P) w src e hs (isU8_eq hu) 0 cap dst hd
            simp [execOp, ho, hu', this]
            rfl
          | some ad =>
            have hone1 : ∀ x, x ∈ xs → x.cells = [x] := fun x hx => by
              have := List.all_eq_true.1 hb x hx
              cases x <;> simp [isByte] at this <;> rfl
            have := run_bytes (P := P) w hs (isU8_eq hu) hd (A := ad) (c := cap) rfl hb (fun i p hi => by
              have hsz1 : sz = 1 := by rw [← hss p (List.mem_of_getElem? hi), hone1 p (List.mem_of_getElem? hi)]; rfl
              have h0 : p.cells[0]? = some p := by rw [hone1 p (List.mem_of_getElem? hi)]; rfl
              have g1 := hm ad rfl i p 0 p hi h0
              rw [hsz1, Nat.mul_one, Nat.add_zero] at g1
              exact ⟨_, hM _ _ g1, _, hrr i p 0 p hi h0⟩)
            simp [execOp, ho, hu', this]
  · rename_i e s hs hd
    cases hu : isU8 (P.underlying e) && Nat.beq (sizeT P e) 1 with
    | false => rw [hu] at h; cases h
    | true =>
      cases hb : decide (s.length ≤ 2147483648) with
      | false => rw [hu, hb] at h; cases h
      | true =>
        rw [hu, hb] at h
        simp only [Bool.and_eq_true] at hu
        refine ⟨_, h, ?_⟩
        intro F w0 M0 G st a w o hS hA ho _
        have e1 := rep_str (hp G st _ (hA y b hy))
        have hrun := Lib.run_convert_string_bytes (P := P) w src dst e (mkStr s) hs hd (isU8_eq hu.1)
        have hbel : Below w.heap.size w (Lib.bytesWorld w e (mkStr s)) := ⟨rfl, rfl, rfl, by rw [Lib.bytesWorld_size]; omega, fun k hk => Lib.bytesWorld_at_old w e (mkStr s) k hk⟩
        have hfl : flat (s.map fun c => PV.int .u8 c.toNat) = s.map fun c => PV.int .u8 c.toNat := flat_scalars (fun x hx => by obtain ⟨c, _, rfl⟩ := List.mem_map.1 hx; rfl)
        obtain ⟨G', k1, k2, k3⟩ := hS.newPlainAt hbel (xs := s.map fun c => PV.int .u8 c.toNat) (sz := 1) (by omega) (fun x hx => by obtain ⟨c, _, rfl⟩ := List.mem_map.1 hx; rfl) (fun i => .int .u8 (s.getD i 0).toNat)
          (fun i p hi => by
            rw [hfl, List.getElem?_map] at hi
            cases hc : s[i]? with
            | none => rw [hc] at hi; cases hi
            | some c =>
              rw [hc] at hi
              obtain rfl := Option.some.inj hi
              have hlt : i < s.length := (List.getElem?_eq_some_iff.1 hc).1
              have hg : s.getD i 0 = c := by simp [List.getD_eq_getElem?_getD, hc]
              refine ⟨?_, by rw [hg]; exact .int _ _, rfl⟩
              have := Lib.bytesWorld_cell w e (mkStr s) i hlt
              simpa [mkStr] using this) (grownCap w s.length 0 e) (by simp; exact grownCap_ge w s.length 0 e)
        refine OpTo.value (u := .slice (some ⟨w.heap.size, 0, none⟩) s.length (grownCap w s.length 0 e)) (w' := Lib.bytesWorld w e (mkStr s)) ?_ ⟨G', k1, k2, ?_⟩
        · simp [execOp, ho, e1, hrun, size_mkStr]
        · show PRep _ _ _
          simpa using k3
  · cases h
end
end Go.AL

/- All operations that depend on their operands alone, together. -/
set_option linter.unusedVariables false
set_option linter.unusedSimpArgs false
namespace Go.AL
open Go.RowKit

theorem bif_some {ρ : Type} {c : Bool} {a : Option ρ} {r : ρ} (h : (bif c then a else none) = some r) : c = true ∧ a = some r := by
  cases c
  · cases h
  · exact ⟨rfl, h⟩
theorem bif_none {ρ : Type} {c : Bool} {a : Option ρ} {r : ρ} (h : (bif c then none else a) = some r) : c = false ∧ a = some r := by
  cases c
  · exact ⟨rfl, h⟩
  · cases h
theorem bind_some {α ρ : Type} {o : Option α} {f : α → Option ρ} {r : ρ} (h : o.bind f = some r) : ∃ a, o = some a ∧ f a = some r := by
  cases o with
  | none => cases h
  | some a => exact ⟨a, rfl, h⟩
theorem Sh.viewNil_eq {sh : Sh} {r : PV} (h : sh.fitsNil r = true) : sh.viewNil r = r := by
  unfold Sh.fitsNil at h
  split at h
  · rename_i l cs
    show PV.agg (.nils :: Sh.viewA l (.agg (.nils :: cs)) (0 + 1)) = _
    rw [Sh.viewA_shift, Sh.viewA_eq l cs true h]
  · cases h
theorem beq0 {n : Nat} (h : Nat.beq n 0 = false) : n ≠ 0 := by intro e; subst e; cases h

section
variable {P : Program} {E : Env} {av : Av} {ty : TypeId} {ρ : Type}

theorem list1 {α : Type} {l : Array α} {a : α} (h : l.toList = [a]) : l = #[a] := by
  apply Array.ext'; simpa using h
theorem list2 {α : Type} {l : Array α} {a b : α} (h : l.toList = [a, b]) : l = #[a, b] := by
  apply Array.ext'; simpa using h
theorem list3 {α : Type} {l : Array α} {a b c : α} (h : l.toList = [a, b, c]) : l = #[a, b, c] := by
  apply Array.ext'; simpa using h

theorem mapM_cons_some {l : List Operand} {bs : List AV} {b : AV} (h : l.mapM av = some (b :: bs)) : ∃ y l', l = y :: l' ∧ av y = some b ∧ l'.mapM av = some bs := by
  cases l with
  | nil => simp at h
  | cons y l =>
    rw [List.mapM_cons] at h
    cases hy : av y with
    | none => rw [hy] at h; simp at h
    | some b' =>
      cases hl : l.mapM av with
      | none => rw [hy, hl] at h; simp at h
      | some bs' =>
        rw [hy, hl] at h
        simp at h
        obtain ⟨rfl, rfl⟩ := h
        exact ⟨y, l, rfl, hy, hl⟩
theorem mapM_nil_some {l : List Operand} (h : l.mapM av = some []) : l = [] := by
  cases l with
  | nil => rfl
  | cons y l =>
    rw [List.mapM_cons] at h
    cases hy : av y with
    | none => rw [hy] at h; simp at h
    | some b' =>
      cases hl : l.mapM av with
      | none => rw [hy, hl] at h; simp at h
      | some bs' => rw [hy, hl] at h; simp at h

theorem elemT_of {t e : TypeId} (hu : P.underlying t = some (.slice e)) : elemT P t = some e := by unfold elemT; rw [hu]
theorem bound_none {y : Option Operand} (h : bound av y = some none) : y = none := by
  cases y with
  | none => rfl
  | some y => simp only [bound] at h; split at h <;> simp at h

theorem arrT_eq {t e : TypeId} {n : Nat} (h : arrT P t = some (n, e)) : P.underlying t = some (.array n e) ∧ 0 < sizeT P e ∧ 1 < n := by
  unfold arrT at h
  split at h
  · rename_i n' e' hu
    replace h := bif_some h
    obtain ⟨h1, h⟩ := h
    simp only [Bool.and_eq_true] at h1
    simp only [Option.some.injEq, Prod.mk.injEq] at h
    obtain ⟨rfl, rfl⟩ := h
    exact ⟨hu, blt_lt h1.1, blt_lt h1.2⟩
  · cases h

theorem s_indexAddr_arr {t e : TypeId} {n : Nat} {y x : Operand} {i : Int} (h : arrT P t = some (n, e)) (hx : av x = some (.pv (.int .i64 i))) (h0 : 0 ≤ i) (h1 : i < n) :
    (∀ b off, av y = some (.box b off) → Sound1 P (.indexAddr t y x) ty av (.box b (off + i.toNat * sizeT P e))) ∧ ∀ cs, av y = some (.pv (.ptr cs)) → Sound1 P (.indexAddr t y x) ty av (.pv (.ptr (cs.drop (i.toNat * sizeT P e)))) := by
  obtain ⟨hu, hs, hn⟩ := arrT_eq h
  obtain ⟨j, hj, hjs⟩ : ∃ j, P.types[e]? = some j ∧ sizeT P e = j.size := by
    cases hj : P.types[e]? with
    | none => simp [sizeT, hj] at hs
    | some j => exact ⟨j, rfl, by simp [sizeT, hj]⟩
  have key : ∀ (a : Act) (w : World) (o : Oper) (ad : Addr), o.op = .indexAddr t y x → a.eval y = .pointer (some ad) → a.eval x = .int .i64 i → (execOp a.eval o).run P w = .ok (.value (.pointer (some (ad.add (i.toNat * sizeT P e))))) w := by
    intro a w o ad ho hy hx
    have hn1 : ¬ n ≤ 1 := by omega
    simp only [execOp, ho, Instr.indexAt, hy, hx, asIntOf, Sem.run_bind, run_underlying hu, Result.andThen_ok, Sem.run_pure, Instr.sureAddr]
    simp [h0, h1, sizeOf, typeInfo, info_of hj, hjs, hn1, run_underlying hu]
  refine ⟨fun b off hy => .val fun G s a w o _ hA ho _ => ?_, fun cs hy => .val fun G s a w o _ hA ho _ => ?_⟩
  · have hxi := rep_int (hA x _ hx)
    obtain ⟨hb, bl, hm, e1⟩ := hA y _ hy
    refine ⟨_, key a w o _ ho e1 hxi, hb, bl, hm, ?_⟩
    rw [Addr.add_lit]
  · have hxi := rep_int (hA x _ hx)
    obtain ⟨ad, vs, e1, g1, g2, g3⟩ := rep_ptr (hA y _ hy)
    refine ⟨_, key a w o _ ho e1 hxi, ?_⟩
    refine PRep.ptr _ _ (fun k => vs (i.toNat * sizeT P e + k)) (fun c hc => g1 c (List.mem_of_mem_drop hc)) (fun k c hk => ?_) (fun k c hk => ?_)
    · rw [List.getElem?_drop] at hk
      rw [Addr.add_add]
      exact g2 _ c hk
    · rw [List.getElem?_drop] at hk
      exact g3 _ c hk

theorem s_index_arr {t e : TypeId} {n : Nat} {y x : Operand} {i : Int} {cs : List PV} {c : PV} (hu : P.underlying t = some (.array n e)) (hb : (bkT P e).isSome = true) (hy : av y = some (.pv (.agg cs))) (hx : av x = some (.pv (.int .i64 i))) (h0 : 0 ≤ i) (h1 : i < n) (hc : cs[i.toNat]? = some c) :
    Sound1 P (.index t y x) ty av (.pv c) := by
  obtain ⟨b, hb⟩ := Option.isSome_iff_exists.1 hb
  refine .val fun G s a w o _ hA ho _ => ?_
  have hxi := rep_int (hA x _ hx)
  obtain ⟨vs, e1, c1⟩ := rep_agg (hA y _ hy)
  have hl : i.toNat < vs.length := by rw [c1.1]; exact (List.getElem?_eq_some_iff.1 hc).1
  refine ⟨vs[i.toNat], ?_, c1.2 _ c _ hc (List.getElem?_eq_getElem hl)⟩
  simp only [execOp, ho, Instr.index, hxi, e1, asIntOf, Sem.run_bind, run_underlying hu, Result.andThen_ok, Sem.run_pure]
  simp only [h0, h1, and_self, if_true, Sem.run_bind, run_size_bk hb, Result.andThen_ok, Nat.mul_one]
  rw [run_part_bk hb (v := vs[i.toNat]) (by simp [hl]) w]
  rfl

theorem effP_sound (hT : TOk P) (hF : FOk P) (hc : CallOk P E.call) {op : Op} {dst : Option Tmp} {K : AV → Option ρ} {r : ρ} (h : effP P E av op ty dst K = some r) : ∃ v, K v = some r ∧ Sound1 P op ty av v := by
  unfold effP at h
  split at h
  · -- move
    split at h
    · rename_i v hv; exact ⟨v, h, s_move hv⟩
    · cases h
  · -- assign
    split at h
    · rename_i v hv; exact ⟨v, h, s_assign hv⟩
    · cases h
  · -- pick
    split at h
    · rename_i c hcnd
      cases c with
      | true =>
        simp only [cond_true] at h
        split at h
        · rename_i v hv; exact ⟨v, h, s_pick hcnd hv⟩
        · cases h
      | false =>
        simp only [cond_false] at h
        split at h
        · rename_i v hv; exact ⟨v, h, s_pick hcnd hv⟩
        · cases h
    · cases h
  · -- build
    split at h
    · rename_i pl z ps h1 h2 h3
      split at h
      · rename_i cs h4; exact ⟨_, h, s_build hT h1 h2 h3 h4⟩
      · cases h
    · cases h
  · -- buildSlice
    split at h
    · rename_i e he
      split at h
      · rename_i z ps hz hps
        obtain ⟨h1, h⟩ := bif_some h
        split at h
        · rename_i xs hxs
          simp only [Bool.and_eq_true] at h1
          exact ⟨_, h, s_buildSlice hT he hz hps (Nat.le_of_ble_eq_true h1.1) (blt_lt h1.2) hxs⟩
        · cases h
      · cases h
    · cases h
  · -- nilCheck
    split at h
    · rename_i i off hv; exact ⟨_, h, s_nilCheck hv (.inl ⟨_, _, rfl⟩)⟩
    · rename_i cs hv; exact ⟨_, h, s_nilCheck hv (.inr (.inl ⟨_, rfl⟩))⟩
    · rename_i g cap hv; exact ⟨_, h, s_nilCheck hv (.inr (.inr ⟨_, _, rfl⟩))⟩
    · cases h
  · -- binOp
    split at h
    · rename_i cs ds ha hb
      split at h
      · rename_i l hl
        obtain ⟨b, h1, h⟩ := bind_some h
        obtain ⟨b', h2, h⟩ := bind_some h
        exact ⟨_, h, s_bin_agg ha hb hl h1 h2⟩
      · cases h
    · rename_i a b _ ha hb
      obtain ⟨res, g1, g2⟩ := s_bin ha hb (fun _ _ _ q => q) (fun _ _ _ q => q) h
      exact ⟨_, g1, g2⟩
    · rename_i xs b ha hb
      obtain ⟨res, g1, g2⟩ := s_bin ha hb (fun _ _ _ q => q.2.1) (fun _ _ _ q => q) h
      exact ⟨_, g1, g2⟩
    · cases h
  · -- unOp
    split at h
    · rename_i a ha
      obtain ⟨res, g1, g2⟩ := s_un ha h
      exact ⟨_, g1, g2⟩
    · cases h
  · -- convert
    split at h
    · rename_i a ha
      obtain ⟨res, g1, g2⟩ := s_conv hT ha (fun _ _ _ q => PRep.weak q) h
      exact ⟨_, g1, g2⟩
    · rename_i xs ha
      obtain ⟨res, g1, g2⟩ := s_conv hT ha (fun _ _ _ q => q.2.1) h
      exact ⟨_, g1, g2⟩
    · cases h
  · -- fieldAddr
    split at h
    · rename_i fs hfs
      split at h
      · rename_i fd hfd
        obtain ⟨h0, h⟩ := bif_none h
        have hn := beq0 h0
        cases hj : P.types[fd.type]? with
        | none => exact absurd (by simp [sizeT, hj]) hn
        | some j =>
          have hz : j.size ≠ 0 := by simpa [sizeT, hj] using hn
          obtain ⟨k1, k2, k3⟩ := s_fieldAddr (P := P) (av := av) (ty := ty) (y := ‹Operand›) hfs hfd hj hz
          split at h
          · rename_i cs hv; exact ⟨_, h, k1 _ hv⟩
          · rename_i b off hv; exact ⟨_, h, k2 _ _ hv⟩
          · rename_i b v j' k hv; exact ⟨_, h, k3 _ _ _ _ hv⟩
          · cases h
      · cases h
    · cases h
  · -- field
    split at h
    · rename_i fs hfs
      split at h
      · rename_i fd cs hfd hcs
        split at h
        · cases h
        · rename_i z hz
          obtain ⟨k1, k2⟩ := s_field (P := P) (av := av) (ty := ty) hT hfs hfd hcs hz
          split at h
          · rename_i n hn
            obtain ⟨h1, h⟩ := bif_some h
            exact ⟨_, h, k1 n hn (Nat.le_of_ble_eq_true h1)⟩
          · rename_i hn
            split at h
            · rename_i c hcc; exact ⟨_, h, k2 c hn hcc⟩
            · cases h
      · cases h
    · cases h
  · -- indexAddr
    split at h
    · rename_i n e hae
      split at h
      · rename_i b off i ha hi
        obtain ⟨h0, h⟩ := bif_some h
        simp only [Bool.and_eq_true, decide_eq_true_eq] at h0
        exact ⟨_, h, (s_indexAddr_arr hae hi h0.1 h0.2).1 _ _ ha⟩
      · rename_i cs i ha hi
        obtain ⟨h0, h⟩ := bif_some h
        simp only [Bool.and_eq_true, decide_eq_true_eq] at h0
        exact ⟨_, h, (s_indexAddr_arr hae hi h0.1 h0.2).2 _ ha⟩
      · cases h
    split at h
    · rename_i e a i he ha hi
      split at h
      · rename_i xs z hxs hz
        obtain ⟨h0, h⟩ := bif_some h
        obtain ⟨x, hx, h⟩ := bind_some h
        obtain ⟨hf, h⟩ := bif_some h
        obtain ⟨j, hj, zv, hzv⟩ := zero_size hT hz
        exact ⟨_, h, s_indexAddr hT he ha hi hxs (of_decide_eq_true h0) hx hf ⟨j, zv, hj, hzv⟩⟩
      · cases h
    · cases h
  · -- index
    split at h
    · rename_i n e cs i hu hcs hi
      obtain ⟨h0, h⟩ := bif_some h
      simp only [Bool.and_eq_true, decide_eq_true_eq] at h0
      split at h
      · rename_i c hc
        exact ⟨_, h, s_index_arr hu h0.1.1 hcs hi h0.1.2 h0.2 hc⟩
      · cases h
    · rename_i s i hu hs hi
      obtain ⟨h0, h⟩ := bif_some h
      obtain ⟨c, hcc, h⟩ := bind_some h
      exact ⟨_, h, s_index hu hs hi (of_decide_eq_true h0) hcc⟩
    · cases h
  · -- extract
    split at h
    · rename_i cs hcs
      split at h
      · rename_i c hcc; exact ⟨_, h, s_extract hcs hcc⟩
      · cases h
    · rename_i j ver ps hj
      split at h
      · exact ⟨_, h, s_extract0 hj⟩
      · split at h
        · rename_i c hcc; exact ⟨_, h, s_extract1 hj hcc⟩
        · cases h
    · cases h
  · -- slice
    split at h
    · cases h
    · split at h
      · rename_i hu
        split at h
        · rename_i s lo hi hs hlo hhi
          obtain ⟨hb, h⟩ := sliceS_eq h
          exact ⟨_, h, s_slice_str hu hs hlo hhi hb⟩
        · cases h
      · rename_i e hu
        have he := elemT_of hu
        split at h
        · cases h
        · rename_i z hz
          split at h
          · rename_i i v xs lo hxs hlo hhi
            obtain ⟨hok, h⟩ := bif_some h
            obtain ⟨hb, h⟩ := sliceL_eq h
            have hn := bound_none hhi
            subst hn
            rw [show hi0 none xs.length = xs.length by simp [hi0], List.take_length] at h
            exact ⟨_, h, s_slice_bld hT he hz hxs hlo hok hb⟩
          · rename_i b lo hi _ hb hlo hhi
            split at h
            · rename_i xs hxs
              obtain ⟨hok, h⟩ := bif_some h
              obtain ⟨hbd, h⟩ := sliceL_eq h
              exact ⟨_, h, s_slice hT he hz hb hlo hhi hxs hok hbd⟩
            · cases h
          · cases h
      · cases h
  · -- makeFunc
    obtain ⟨hf, h⟩ := bif_some h
    split at h
    · rename_i l hl
      split at h
      · rename_i ps hps; exact ⟨_, h, s_makeFunc hf hl hps⟩
      · cases h
    · cases h
  · -- call
    rename_i c
    split at h
    · rename_i hcal
      split at h
      · rename_i a t ha ht
        have ht' : c.argTypes[0]? = some t := by rw [list1 ht]; rfl
        split at h
        · rename_i s hu hs; exact ⟨_, h, s_len_str hcal (list1 ha) ht' hu hs⟩
        · rename_i e v hu hv
          split at h
          · rename_i xs hxs; exact ⟨_, h, s_len hcal (list1 ha) ht' hu hv hxs⟩
          · cases h
        · cases h
      · cases h
    · rename_i hcal
      split at h
      · rename_i k x k' y hm
        obtain ⟨_, h⟩ := bif_some h
        obtain ⟨y1, l1, e1, a1, m1⟩ := mapM_cons_some hm
        obtain ⟨y2, l2, e2, a2, m2⟩ := mapM_cons_some m1
        have e3 := mapM_nil_some m2
        subst e3; subst e2
        exact ⟨_, h, s_max2 hcal (list2 e1) a1 a2⟩
      · rename_i k x k' y k'' z hm
        obtain ⟨_, h⟩ := bif_some h
        obtain ⟨y1, l1, e1, a1, m1⟩ := mapM_cons_some hm
        obtain ⟨y2, l2, e2, a2, m2⟩ := mapM_cons_some m1
        obtain ⟨y3, l3, e3, a3, m3⟩ := mapM_cons_some m2
        have e4 := mapM_nil_some m3
        subst e4; subst e3; subst e2
        exact ⟨_, h, s_max3 hcal (list3 e1) a1 a2 a3⟩
      · cases h
    · rename_i hcal
      split at h
      · rename_i k x k' y hm
        obtain ⟨_, h⟩ := bif_some h
        obtain ⟨y1, l1, e1, a1, m1⟩ := mapM_cons_some hm
        obtain ⟨y2, l2, e2, a2, m2⟩ := mapM_cons_some m1
        have e3 := mapM_nil_some m2
        subst e3; subst e2
        exact ⟨_, h, s_min2 hcal (list2 e1) a1 a2⟩
      · cases h
    · cases h
    · cases h
    · rename_i y hcal
      split at h
      · rename_i g l hg hl
        split at h
        · rename_i ps hps
          obtain ⟨r', hr', h2⟩ := bind_some h
          have key : ∀ {v : PV}, K (.pv v) = some r → v = r' → ∃ v, K v = some r ∧ Sound1 P (.call c) ty av v := fun {v} h3 e => by
            subst e
            unfold Env.callP at hr'
            split at hr'
            · rename_i f' cap
              exact ⟨_, h3, s_call hF hc hcal hg hl hps hr'⟩
            · cases hr'
          cases hnil : nilRes E y (shRes P ty) r' with
          | true =>
            rw [hnil] at h2
            refine key h2 ?_
            unfold nilRes at hnil
            split at hnil
            · simp only [Bool.and_eq_true] at hnil
              cases r' <;> simp [PV.isNils] at hnil ⊢
            · cases hnil
          | false =>
            rw [hnil] at h2
            simp only [cond_false] at h2
            cases hna : nilAgg E y (shRes P ty) r' with
            | true =>
              rw [hna] at h2
              refine key h2 ?_
              unfold nilAgg at hna
              split at hna
              · simp only [Bool.and_eq_true] at hna
                exact Sh.viewNil_eq hna.2
              · cases hna
            | false =>
              rw [hna] at h2
              obtain ⟨hfit, h3⟩ := bif_some h2
              rw [Sh.view_eq _ _ hfit] at h3
              exact key h3 rfl
        · cases h
      · cases h
  · cases h
end
end Go.AL

/- Memory of the call's own: what a write leaves. -/
set_option linter.unusedVariables false
set_option linter.unusedSimpArgs false
namespace Go.AL
open Go.RowKit

section
variable {F : Fr} {w0 : World} {M0 : Mem} {G : Gh} {s : St} {w : World}

theorem setRow_cell_other (w : World) (g : Nat) (cs : Array Value) {a : Addr} (h : a.block ≠ g) : (w.setRow g cs).cell? a = w.cell? a := by
  simp only [World.cell?, setRow_other w g a.block cs h]

/-- A new box. -/
theorem SRel.newObj (h : SRel F w0 M0 G s w) {cs : List AV} {ob : Obj} (hob : BRel G s cs ob) :
    ∃ G', SRel F w0 M0 G' { s with bx := s.bx ++ [(false, cs)] } (w.alloc ob) ∧ Ext G s G' { s with bx := s.bx ++ [(false, cs)] } ∧
      G'.μ s.bx.length = some w.heap.size := by
  let G' : Gh := { G with μ := fun i => if i = s.bx.length then some w.heap.size else G.μ i, own := fun b => if b = w.heap.size then .box s.bx.length else G.own b }
  have ha := h.alloc ob
  have he : Ext G s G' { s with bx := s.bx ++ [(false, cs)] } :=
    ⟨Mem.le_refl _, by simp, Nat.le_refl _, Nat.le_refl _, fun i b hi hb => by simp only [G']; rw [if_neg (by omega)]; exact hb, fun i _ cur xs h => ⟨cur, xs, h, Nat.le_refl _, fun _ => ⟨rfl, rfl⟩⟩, fun i _ cur h => ⟨cur, h, Nat.le_refl _, fun _ => rfl⟩⟩
  have hown : ∀ b, G.own b ≠ .free → G'.own b = G.own b := fun b hb => by
    have := (h.own b hb).1
    simp only [G']; rw [if_neg (by omega)]
  refine ⟨G', ⟨ha.os, ha.tape, ha.output, ha.size, ha.old, ha.agree, ha.base, ha.lay, ha.newM, ?_, ?_, ?_, ?_, ?_, ⟨h.rt.1, fun i hi => ⟨by simp; have := (h.rt.2 i hi).1; omega, by simp only [G']; rw [if_neg (by have := (h.rt.2 i hi).1; omega)]; exact (h.rt.2 i hi).2⟩⟩, h.rv⟩, he, ?_⟩
  · intro b hb
    by_cases hbs : b = w.heap.size
    · subst hbs; exact ⟨by simp, .inr h.size⟩
    · simp only [G'] at hb; rw [if_neg hbs] at hb; exact ha.own b hb
  · intro a v hM
    have := M_lt h hM
    rcases h.ownM a v hM with e | ⟨i, ad, hi, e1, e2⟩
    · left; simp only [G']; rw [if_neg (by omega)]; exact e
    · right; exact ⟨i, ad, hi, by rw [hown _ (by rw [e1]; simp)]; exact e1, e2⟩
  · intro i z cs' b h1 h2
    by_cases hi : i < s.bx.length
    · rw [List.getElem?_append_left hi] at h1
      have h2' : G.μ i = some b := by simp only [G'] at h2; rw [if_neg (by omega)] at h2; exact h2
      obtain ⟨q1, q2, q3, us, q4, q5⟩ := ha.bx i z cs' b h1 h2'
      have q2' := (h.bx i z cs' b h1 h2').2.1
      refine ⟨?_, q2, q3, us, q4, q5.ext he⟩
      simp only [G']; rw [if_neg (by omega)]; exact q1
    · have hil : i < (s.bx ++ [(false, cs)]).length := (List.getElem?_eq_some_iff.1 h1).1
      have hi' : i = s.bx.length := by simp at hil; omega
      subst hi'
      simp at h1
      obtain ⟨rfl, rfl⟩ := h1
      have h2' : w.heap.size = b := by simp only [G', if_true] at h2; exact Option.some.inj h2
      subst h2'
      refine ⟨by simp [G'], by simp, .inr h.size, ob, heap_alloc_new' w _, hob.ext he⟩
  · intro i ver sz xs h1
    obtain ⟨q0, q1, q2⟩ := ha.vc i ver sz xs h1
    refine ⟨q0, q1, ?_⟩
    rcases q2 with q2 | ⟨b, o, us, T', k1, k2, k3⟩
    · exact .inl q2
    · exact .inr ⟨b, o, us, T', k1, by rw [hown b (by rw [k2]; simp)]; exact k2, k3⟩
  · intro i e h1
    obtain ⟨q0, q2⟩ := ha.tp i e h1
    refine ⟨q0, ?_⟩
    rcases q2 with q2 | ⟨b, o, us, T', k1, k2, k3⟩
    · exact .inl q2
    · exact .inr ⟨b, o, us, T', k1, by rw [hown b (by rw [k2]; simp)]; exact k2, k3⟩
  · simp [G']

theorem SRel.newBox (h : SRel F w0 M0 G s w) {cs : List AV} {vs : Array Value} (T : TypeId) (hl : vs.size = cs.length) (hc : ∀ (k : Nat) c v, cs[k]? = some c → vs[k]? = some v → ARel G s c v ∧ v.oneCell' = true) :
    ∃ G', SRel F w0 M0 G' { s with bx := s.bx ++ [(false, cs)] } (w.alloc (.cells vs T)) ∧ Ext G s G' { s with bx := s.bx ++ [(false, cs)] } ∧
      ARel G' { s with bx := s.bx ++ [(false, cs)] } (.box s.bx.length 0) (.pointer (some ⟨w.heap.size, 0, none⟩)) := by
  obtain ⟨G', k1, k2, k3⟩ := h.newObj (cs := cs) (ob := .cells vs T) (.inl ⟨vs, T, rfl, hl, hc⟩)
  exact ⟨G', k1, k2, ⟨by simp, w.heap.size, k3, rfl⟩⟩
theorem SRel.newMap (h : SRel F w0 M0 G s w) : ∃ G', SRel F w0 M0 G' { s with bx := s.bx ++ [(false, [.ment []])] } (w.alloc (.map #[] 0)) ∧ Ext G s G' { s with bx := s.bx ++ [(false, [.ment []])] } ∧
      ARel G' { s with bx := s.bx ++ [(false, [.ment []])] } (.mp s.bx.length) (.map (some w.heap.size)) := by
  obtain ⟨G', k1, k2, k3⟩ := h.newObj (cs := [.ment []]) (ob := .map #[] 0) (.inr ⟨[], #[], 0, rfl, rfl, rfl, fun i e x h1 => by simp at h1⟩)
  exact ⟨G', k1, k2, ⟨by simp, w.heap.size, k3, rfl⟩⟩

/-- A box, or a map, that is written. -/
theorem SRel.updObj (h : SRel F w0 M0 G s w) {i : Nat} {cs cs' : List AV} {b : Nat} {ob : Obj} {w' : World} (hi : s.bx[i]? = some (false, cs)) (hb : G.μ i = some b)
    (hw : w' = { w with heap := w.heap.setIfInBounds b ob }) (hr : BRel G s cs' ob) :
    SRel F w0 M0 G { s with bx := s.bx.set i (false, cs') } w' ∧ Ext G s G { s with bx := s.bx.set i (false, cs') } := by
  have he : Ext G s G { s with bx := s.bx.set i (false, cs') } :=
    ⟨Mem.le_refl _, by simp, Nat.le_refl _, Nat.le_refl _, fun _ _ _ h => h, fun i _ cur xs h => ⟨cur, xs, h, Nat.le_refl _, fun _ => ⟨rfl, rfl⟩⟩, fun i _ cur h => ⟨cur, h, Nat.le_refl _, fun _ => rfl⟩⟩
  obtain ⟨p1, p2, p3, o0, p4, p5⟩ := h.bx i false cs b hi hb
  simp only [cond_false] at p1
  have hne : ∀ b', G.own b' ≠ .box i → b' ≠ b := fun b' hn e => hn (by rw [e]; exact p1)
  have hoth : ∀ k, k ≠ b → w'.heap[k]? = w.heap[k]? := fun k hk => by rw [hw]; simp only; rw [Array.getElem?_setIfInBounds_ne (Ne.symm hk)]
  have hself : w'.heap[b]? = some ob := by rw [hw]; simp only; rw [Array.getElem?_setIfInBounds]; simp [p2]
  have hsize : w'.heap.size = w.heap.size := by rw [hw]; simp
  have hcell : ∀ a : Addr, a.block ≠ b → w'.cell? a = w.cell? a := fun a ha => by simp only [World.cell?, hoth a.block ha]
  refine ⟨⟨by rw [hw]; exact h.os, by rw [hw]; exact h.tape, by rw [hw]; exact h.output, by rw [hsize]; exact h.size, ?_, ?_, h.base, h.lay, h.newM, ?_, h.ownM, ?_, ?_, ?_, ⟨h.rt.1, fun i hi => ⟨by simpa using (h.rt.2 i hi).1, (h.rt.2 i hi).2⟩⟩, h.rv⟩, he⟩
  · intro k hk hF
    have : k ≠ b := by
      rintro rfl
      rcases p3 with p3 | p3
      · exact hF p3
      · omega
    rw [hoth k this]
    exact h.old k hk hF
  · intro a v hM
    rw [hcell]
    · exact h.agree a v hM
    · refine hne _ ?_
      rcases h.ownM a v hM with e | ⟨j, ad, _, e, _⟩ <;> rw [e] <;> simp
  · intro b' hb'
    exact ⟨by rw [hsize]; exact (h.own b' hb').1, (h.own b' hb').2⟩
  · intro j z cs2 b' h1 h2
    by_cases hij : i = j
    · subst hij
      have hlt : i < s.bx.length := (List.getElem?_eq_some_iff.1 hi).1
      simp only [List.getElem?_set_self hlt, Option.some.injEq, Prod.mk.injEq] at h1
      obtain ⟨rfl, rfl⟩ := h1
      rw [hb] at h2
      obtain rfl := Option.some.inj h2
      exact ⟨p1, by rw [hsize]; exact p2, p3, ob, hself, hr.ext he⟩
    · simp only [List.getElem?_set_ne hij] at h1
      obtain ⟨q1, q2, q3, us, q4, q5⟩ := h.bx j z cs2 b' h1 h2
      refine ⟨q1, by rw [hsize]; exact q2, q3, us, ?_, q5.ext he⟩
      rw [hoth b' (hne b' (by rw [q1]; cases z <;> simp; omega))]
      exact q4
  · intro j ver sz xs h1
    obtain ⟨q0, q1, q2⟩ := h.vc j ver sz xs h1
    refine ⟨q0, q1, ?_⟩
    rcases q2 with q2 | ⟨b', o, us, T', k1, k2, k3, k4⟩
    · exact .inl q2
    · refine .inr ⟨b', o, us, T', k1, k2, ?_, k4⟩
      rw [hoth b' (hne b' (by rw [k2]; simp))]
      exact k3
  · intro j e h1
    obtain ⟨q0, q2⟩ := h.tp j e h1
    refine ⟨q0, ?_⟩
    rcases q2 with q2 | ⟨b', o, us, T', k1, k2, k3, k4⟩
    · exact .inl q2
    · refine .inr ⟨b', o, us, T', k1, k2, ?_, k4⟩
      rw [hoth b' (hne b' (by rw [k2]; simp))]
      exact k3

theorem setRow_eq (w : World) (b : Nat) (vs vs' : Array Value) (T : TypeId) (z : Nat × Nat) (h : w.heap[b]? = some (.cells vs T z)) : w.setRow b vs' = { w with heap := w.heap.setIfInBounds b (.cells vs' T z) } := by
  have hs : (w.setRow b vs').heap = w.heap.setIfInBounds b (.cells vs' T z) := by
    apply Array.ext_getElem?
    intro k
    by_cases hk : k = b
    · subst hk
      rw [setRow_heap w k vs vs' T z h, Array.getElem?_setIfInBounds]
      simp [(Array.getElem?_eq_some_iff.1 h).1]
    · rw [setRow_other w b k vs' hk, Array.getElem?_setIfInBounds_ne (Ne.symm hk)]
  show { w with heap := (w.setRow b vs').heap } = _
  rw [hs]

theorem SRel.updBox (h : SRel F w0 M0 G s w) {i : Nat} {cs cs' : List AV} {b : Nat} {vs' : Array Value} (hi : s.bx[i]? = some (false, cs)) (hm : isCells cs = true) (hb : G.μ i = some b)
    (hl : vs'.size = cs'.length) (hc : ∀ (k : Nat) c v, cs'[k]? = some c → vs'[k]? = some v → ARel G s c v ∧ v.oneCell' = true) :
    SRel F w0 M0 G { s with bx := s.bx.set i (false, cs') } (w.setRow b vs') ∧ Ext G s G { s with bx := s.bx.set i (false, cs') } := by
  obtain ⟨p1, p2, p3, o0, p4, p5⟩ := h.bx i false cs b hi hb
  obtain ⟨vs, T, rfl, p6, p7⟩ := p5.cells hm
  exact h.updObj hi hb (setRow_eq w b vs vs' T _ p4) (.inl ⟨vs', T, rfl, hl, hc⟩)

/-- A vector that is written. -/
theorem SRel.updVec (h : SRel F w0 M0 G s w) {i ver sz : Nat} {xs xs' : List PV} {b o : Nat} {vs vs' : Array Value} {T : TypeId} (hi : s.vc[i]? = some (some (ver, sz, xs))) (hA : (G.ν i).A = some ⟨b, o, none⟩) (ho : G.own b = .vec i) (hp : w.heap[b]? = some (.cells vs T (0, 0)))
    (hl : vs'.size = vs.size) (hxl : xs'.length = xs.length) (hs : ∀ x, x ∈ xs' → x.cells.length = sz ∧ ∀ y, y ∈ x.cells → y.one = true)
    (hc : ∀ j x k y, xs'[j]? = some x → x.cells[k]? = some y → ∃ v, vs'[o + (j * sz + k)]? = some v ∧ PRep G.M y v) :
    SRel F w0 M0 G { s with vc := s.vc.set i (some (ver, sz, xs')) } (w.setRow b vs') ∧ Ext G s G { s with vc := s.vc.set i (some (ver, sz, xs')) } := by
  have hlt : i < s.vc.length := (List.getElem?_eq_some_iff.1 hi).1
  have he : Ext G s G { s with vc := s.vc.set i (some (ver, sz, xs')) } :=
    ⟨Mem.le_refl _, Nat.le_refl _, by simp, Nat.le_refl _, fun _ _ _ h => h, fun j _ cur ys e => by
      by_cases hij : i = j
      · subst hij
        rw [List.getElem?_set_self hlt] at e
        simp only [Option.some.injEq, Prod.mk.injEq] at e
        obtain ⟨rfl, rfl⟩ := e
        exact ⟨ver, (sz, xs), hi, Nat.le_refl _, fun _ => ⟨hxl.symm, rfl⟩⟩
      · rw [List.getElem?_set_ne hij] at e
        exact ⟨cur, ys, e, Nat.le_refl _, fun _ => ⟨rfl, rfl⟩⟩, fun i _ cur h => ⟨cur, h, Nat.le_refl _, fun _ => rfl⟩⟩
  have hne : ∀ b', G.own b' ≠ .vec i → b' ≠ b := fun b' hn e => hn (by rw [e]; exact ho)
  obtain ⟨⟨r0, r0'⟩, r1, r2⟩ := h.vc i ver sz xs hi
  refine ⟨⟨h.os, h.tape, h.output, by simpa [World.setRow] using h.size, ?_, ?_, h.base, h.lay, h.newM, ?_, h.ownM, ?_, ?_, ?_, h.rt, ?_⟩, he⟩
  · intro k hk hF
    have : k ≠ b := by
      rintro rfl
      rcases (h.own k (by rw [ho]; simp)).2 with p3 | p3
      · exact hF p3
      · omega
    rw [setRow_other w b k vs' this]
    exact h.old k hk hF
  · intro a v hM
    rw [setRow_cell_other]
    · exact h.agree a v hM
    · refine hne _ ?_
      rcases h.ownM a v hM with e | ⟨j, ad, _, e, _⟩ <;> rw [e] <;> simp
  · intro b' hb'
    exact ⟨by have := (h.own b' hb').1; simpa [World.setRow] using this, (h.own b' hb').2⟩
  · intro j z cs2 b' h1 h2
    obtain ⟨q1, q2, q3, us, q4, q5⟩ := h.bx j z cs2 b' h1 h2
    refine ⟨q1, by simpa [World.setRow] using q2, q3, us, ?_, q5.ext he⟩
    rw [setRow_other w b b' vs' (hne b' (by rw [q1]; cases z <;> simp))]
    exact q4
  · intro j ver' sz' ys h1
    by_cases hij : i = j
    · subst hij
      rw [List.getElem?_set_self hlt] at h1
      simp only [Option.some.injEq, Prod.mk.injEq] at h1
      obtain ⟨rfl, rfl, rfl⟩ := h1
      refine ⟨⟨r0, r0'⟩, by rw [r0]; exact hs, .inr ⟨b, o, vs', T, hA, ho, setRow_heap w b vs vs' T _ hp, ?_, ?_, by rw [r0]; exact hc⟩⟩
      · rcases r2 with ⟨e, _⟩ | ⟨b', o', us, T', k1, k2, k3, k4, k5, _⟩
        · rw [hA] at e; cases e
        · rw [hA] at k1
          simp only [Option.some.injEq, Addr.mk.injEq] at k1
          obtain ⟨rfl, rfl, _⟩ := k1
          rw [hp] at k3
          simp only [Option.some.injEq, Obj.cells.injEq] at k3
          obtain ⟨rfl, _⟩ := k3
          rw [hl]; exact k4
      · rcases r2 with ⟨e, _⟩ | ⟨b', o', us, T', k1, k2, k3, k4, k5, _⟩
        · rw [hA] at e; cases e
        · rw [hxl]; exact k5
    · rw [List.getElem?_set_ne hij] at h1
      obtain ⟨q0, q1, q2⟩ := h.vc j ver' sz' ys h1
      refine ⟨q0, q1, ?_⟩
      rcases q2 with q2 | ⟨b', o', us, T', k1, k2, k3, k4⟩
      · exact .inl q2
      · refine .inr ⟨b', o', us, T', k1, k2, ?_, k4⟩
        rw [setRow_other w b b' vs' (hne b' (by rw [k2]; simp; omega))]
        exact k3
  · intro j e h1
    obtain ⟨q0, q2⟩ := h.tp j e h1
    refine ⟨q0, ?_⟩
    rcases q2 with q2 | ⟨b', o', us, T', k1, k2, k3, k4⟩
    · exact .inl q2
    · refine .inr ⟨b', o', us, T', k1, k2, ?_, k4⟩
      rw [setRow_other w b b' vs' (hne b' (by rw [k2]; simp))]
      exact k3
  · intro j hj
    obtain ⟨g1, g2⟩ := h.rv j hj
    refine ⟨by simpa using g1, fun ys e => ?_⟩
    by_cases hij : i = j
    · subst hij
      simp only [List.getElem?_set_self hlt, Option.some.injEq, Prod.mk.injEq] at e
      obtain ⟨rfl, rfl⟩ := e
      obtain ⟨k1, k2⟩ := g2 _ hi
      exact ⟨k1, by simp only at k2 ⊢; omega⟩
    · simp only [List.getElem?_set_ne hij] at e
      exact g2 ys e
end
end Go.AL

/- Memory of the call's own: new vectors and builders, and those that are made anew where there is no room. -/
set_option linter.unusedVariables false
set_option linter.unusedSimpArgs false
namespace Go.AL
open Go.RowKit

structure TpAt (s : St) (i : Nat) (e : Nat × Nat) (tp' : List (Nat × Nat)) : Prop where
  at_ : tp'[i]? = some e
  other : ∀ j, j ≠ i → tp'[j]? = s.tp[j]?
  len : s.tp.length ≤ tp'.length
  new : ∀ cur, s.tp[i]? = some cur → cur.1 < e.1
theorem TpAt.push (s : St) (e : Nat × Nat) : TpAt s s.tp.length e (s.tp ++ [e]) :=
  ⟨by simp, fun j hj => by
    by_cases hl : j < s.tp.length
    · rw [List.getElem?_append_left hl]
    · rw [List.getElem?_eq_none (by simp; omega), List.getElem?_eq_none (by omega)], by simp, fun cur h => by simp at h⟩
theorem TpAt.set {s : St} {i : Nat} {c : Nat × Nat} (h : s.tp[i]? = some c) (sz : Nat) : TpAt s i (c.1 + 1, sz) (s.tp.set i (c.1 + 1, sz)) := by
  have hl : i < s.tp.length := (List.getElem?_eq_some_iff.1 h).1
  exact ⟨by rw [List.getElem?_set_self hl], fun j hj => by rw [List.getElem?_set_ne (Ne.symm hj)], by simp, fun cur hc => by rw [h] at hc; obtain rfl := Option.some.inj hc; simp⟩

structure VcAt (s : St) (i : Nat) (e : Nat × Nat × List PV) (vc' : List (Option (Nat × Nat × List PV))) : Prop where
  at_ : vc'[i]? = some (some e)
  other : ∀ j, j ≠ i → vc'[j]? = s.vc[j]?
  len : s.vc.length ≤ vc'.length
  old : i < s.vc.length → ∃ cur, s.vc[i]? = some (some cur) ∧ cur.1 < e.1
theorem VcAt.push (s : St) (e : Nat × Nat × List PV) : VcAt s s.vc.length e (s.vc ++ [some e]) :=
  ⟨by simp, fun j hj => by
    by_cases hl : j < s.vc.length
    · rw [List.getElem?_append_left hl]
    · rw [List.getElem?_eq_none (by simp; omega), List.getElem?_eq_none (by omega)], by simp, fun h => by omega⟩
theorem VcAt.set {s : St} {i : Nat} {c : Nat × Nat × List PV} (h : s.vc[i]? = some (some c)) (e : Nat × Nat × List PV) (hlt : c.1 < e.1) : VcAt s i e (s.vc.set i (some e)) := by
  have hl : i < s.vc.length := (List.getElem?_eq_some_iff.1 h).1
  exact ⟨by rw [List.getElem?_set_self hl], fun j hj => by rw [List.getElem?_set_ne (Ne.symm hj)], by simp, fun _ => ⟨c, h, hlt⟩⟩

section
variable {F : Fr} {w0 : World} {M0 : Mem} {G : Gh} {s : St} {w : World}

theorem Ext.tpAt {i : Nat} {e : Nat × Nat} {tp' : List (Nat × Nat)} (ht : TpAt s i e tp') {M' : Mem} (hM : G.M.le M') (own' : Nat → Own) (h : TH) :
    Ext G s { G with M := M', own := own', τ := fun j => if j = i then h else G.τ j } { s with tp := tp' } :=
  ⟨hM, Nat.le_refl _, Nat.le_refl _, ht.len, fun _ _ _ h => h, fun i _ cur xs h => ⟨cur, xs, h, Nat.le_refl _, fun _ => ⟨rfl, rfl⟩⟩, fun j hj cur' hc => by
    by_cases hji : j = i
    · subst hji
      have := ht.at_
      simp only at hc
      rw [this] at hc
      obtain rfl := Option.some.inj hc
      have hn := ht.new _ (List.getElem?_eq_getElem hj)
      exact ⟨_, List.getElem?_eq_getElem hj, Nat.le_of_lt hn, fun e => by omega⟩
    · simp only at hc
      rw [ht.other j hji] at hc
      exact ⟨cur', hc, Nat.le_refl _, fun _ => by simp only; rw [if_neg hji]⟩⟩

theorem Ext.vcAt {i : Nat} {e : Nat × Nat × List PV} {vc' : List (Option (Nat × Nat × List PV))} (ht : VcAt s i e vc') (own' : Nat → Own) (h : VH) :
    Ext G s { G with own := own', ν := fun j => if j = i then h else G.ν j } { s with vc := vc' } :=
  ⟨Mem.le_refl _, Nat.le_refl _, ht.len, Nat.le_refl _, fun _ _ _ h => h, fun j hj cur' xs' hc => by
    by_cases hji : j = i
    · subst hji
      simp only at hc
      rw [ht.at_] at hc
      simp only [Option.some.injEq] at hc
      subst hc
      obtain ⟨cur, h1, h2⟩ := ht.old hj
      exact ⟨cur.1, cur.2, h1, Nat.le_of_lt h2, fun e => by omega⟩
    · simp only at hc
      rw [ht.other j hji] at hc
      exact ⟨cur', xs', hc, Nat.le_refl _, fun _ => ⟨rfl, by simp only; rw [if_neg hji]⟩⟩, fun i _ cur h => ⟨cur, h, Nat.le_refl _, fun _ => rfl⟩⟩

theorem SRel.rvAt (h : SRel F w0 M0 G s w) {i : Nat} {e : Nat × Nat × List PV} {vc' : List (Option (Nat × Nat × List PV))} (ht : VcAt s i e vc') (hd : VH) (G' : Gh) (hG : ∀ j, j ≠ i → G'.ν j = G.ν j) :
    ∀ j, j < s.nv → j < vc'.length ∧ ∀ xs, vc'[j]? = some (some (0, xs)) → G'.ν j = F.rv j ∧ xs.2.length = F.rl j := by
  intro j hj
  obtain ⟨g1, g2⟩ := h.rv j hj
  refine ⟨Nat.lt_of_lt_of_le g1 ht.len, fun xs hx => ?_⟩
  by_cases hji : j = i
  · subst hji
    rw [ht.at_] at hx
    obtain ⟨cur, k1, k2⟩ := ht.old g1
    simp only [Option.some.injEq] at hx
    subst hx
    simp at k2
  · rw [ht.other j hji] at hx
    rw [hG j hji]
    exact g2 xs hx

/-- A row that is made: the call's own vector number i. -/
theorem SRel.rowVec (h : SRel F w0 M0 G s w) {i : Nat} {ver sz : Nat} {xs : List PV} {vc' : List (Option (Nat × Nat × List PV))} (hv : VcAt s i (ver, sz, xs) vc') (hsz : 0 < sz) (hs : ∀ x, x ∈ xs → x.cells.length = sz) {vs : Array Value} (T : TypeId) {cap : Nat}
    (hcap : cap * sz ≤ vs.size) (hxc : xs.length ≤ cap) (hc : ∀ (i : Nat) p v, (flat xs)[i]? = some p → vs[i]? = some v → PRep G.M p v ∧ p.one = true) :
    ∃ G', SRel F w0 M0 G' { s with vc := vc' } (w.alloc (.cells vs T)) ∧ Ext G s G' { s with vc := vc' } ∧ ARel G' { s with vc := vc' } (.vec i ver) (.slice (some ⟨w.heap.size, 0, none⟩) xs.length cap) := by
  let hd : VH := ⟨some ⟨w.heap.size, 0, none⟩, cap, sz⟩
  let own' : Nat → Own := fun b => if b = w.heap.size then .vec i else (match G.own b with | .vec j => if j = i then .free else .vec j | o => o)
  have he := Ext.vcAt (G := G) hv own' hd
  have ha := h.alloc (.cells vs T)
  have hown : ∀ b, G.own b ≠ .free → G.own b ≠ .vec i → own' b = G.own b := fun b hb hn => by
    have := (h.own b hb).1
    simp only [own']
    rw [if_neg (by omega)]
    split
    · rename_i j e
      split
      · rename_i hj; subst hj; exact absurd e hn
      · exact e.symm
    · rfl
  have hlt : ∀ {k : Nat} {p : PV}, (flat xs)[k]? = some p → k < vs.size := fun hk => by
    have h1 := (List.getElem?_eq_some_iff.1 hk).1
    rw [length_flat hs] at h1
    have := Nat.mul_le_mul_right sz hxc
    omega
  refine ⟨{ G with own := own', ν := fun j => if j = i then hd else G.ν j }, ⟨ha.os, ha.tape, ha.output, ha.size, ha.old, ha.agree, ha.base, ha.lay, ha.newM, ?_, ?_, ?_, ?_, ?_, ha.rt, h.rvAt hv hd _ fun j hj => if_neg hj⟩, he, ?_⟩
  · intro b hb
    by_cases hbs : b = w.heap.size
    · subst hbs; exact ⟨by simp, .inr h.size⟩
    · simp only [own'] at hb
      rw [if_neg hbs] at hb
      refine ha.own b (fun e => hb ?_)
      rw [e]
  · intro a v hM
    have := M_lt h hM
    rcases h.ownM a v hM with e | ⟨j, ad, hj, e1, e2⟩
    · left; simp only [own']; rw [if_neg (by omega), e]
    · right; exact ⟨j, ad, hj, (hown _ (by rw [e1]; simp) (by rw [e1]; simp)).trans e1, e2⟩
  · intro j z cs b h1 h2
    obtain ⟨q1, q2, q3, us, q4, q5⟩ := ha.bx j z cs b h1 h2
    have q2' := (h.bx j z cs b h1 h2).2.1
    refine ⟨?_, q2, q3, us, q4, q5.ext he⟩
    simp only [own']; rw [if_neg (by omega), q1]; cases z <;> rfl
  · intro j ver' sz' ys h1
    by_cases hji : j = i
    · subst hji
      simp only at h1
      rw [hv.at_] at h1
      simp only [Option.some.injEq, Prod.mk.injEq] at h1
      obtain ⟨rfl, rfl, rfl⟩ := h1
      simp only [if_true]
      refine ⟨⟨rfl, hsz⟩, fun x hx => ⟨hs x hx, fun y hy => ?_⟩, .inr ⟨w.heap.size, 0, vs, T, rfl, by simp [own'], heap_alloc_new' w _, by simpa [hd] using hcap, hxc, fun k x m y e1 e2 => ?_⟩⟩
      · obtain ⟨k, hk, rfl⟩ := List.mem_iff_getElem.1 hx
        obtain ⟨m, hm, rfl⟩ := List.mem_iff_getElem.1 hy
        have := flat_get hs (List.getElem?_eq_getElem hk) (List.getElem?_eq_getElem hm)
        exact (hc _ _ _ this (Array.getElem?_eq_getElem (hlt this))).2
      · have := flat_get hs e1 e2
        exact ⟨_, by rw [Nat.zero_add]; exact Array.getElem?_eq_getElem (hlt this), (hc _ _ _ this (Array.getElem?_eq_getElem (hlt this))).1⟩
    · simp only at h1
      rw [hv.other j hji] at h1
      obtain ⟨q0, q1, q2⟩ := ha.vc j ver' sz' ys h1
      simp only [if_neg hji]
      refine ⟨q0, q1, ?_⟩
      rcases q2 with q2 | ⟨b, o, us, T', k1, k2, k3, k4⟩
      · exact .inl q2
      · exact .inr ⟨b, o, us, T', k1, (hown b (by rw [k2]; simp) (by rw [k2]; simp [hji])).trans k2, k3, k4⟩
  · intro j e h1
    obtain ⟨q0, q2⟩ := ha.tp j e h1
    refine ⟨q0, ?_⟩
    rcases q2 with q2 | ⟨b, o, us, T', k1, k2, k3⟩
    · exact .inl q2
    · exact .inr ⟨b, o, us, T', k1, (hown b (by rw [k2]; simp) (by rw [k2]; simp)).trans k2, k3⟩
  · have hil : i < vc'.length := (List.getElem?_eq_some_iff.1 hv.at_).1
    refine ⟨hil, ⟨_, _, _, rfl⟩, fun cur ys h1 => ?_⟩
    simp only at h1
    rw [hv.at_] at h1
    simp only [Option.some.injEq, Prod.mk.injEq] at h1
    obtain ⟨rfl, rfl⟩ := h1
    exact ⟨Nat.le_refl _, fun _ => by simp [hd]⟩

/-- A row that is made: the call's own builder number i. -/
theorem SRel.rowBld (h : SRel F w0 M0 G s w) {i : Nat} {ver sz : Nat} {xs : List PV} {tp' : List (Nat × Nat)} (hv : TpAt s i (ver, sz) tp') (hsz : 0 < sz) (hs : ∀ x, x ∈ xs → x.cells.length = sz) {vs : Array Value} (T : TypeId) {cap : Nat}
    (hcap : cap * sz ≤ vs.size) (hxc : xs.length ≤ cap) (hc : ∀ (i : Nat) p v, (flat xs)[i]? = some p → vs[i]? = some v → PRep G.M p v ∧ p.one = true) :
    ∃ G', SRel F w0 M0 G' { s with tp := tp' } (w.alloc (.cells vs T)) ∧ Ext G s G' { s with tp := tp' } ∧ ARel G' { s with tp := tp' } (.bld i ver xs) (.slice (some ⟨w.heap.size, 0, none⟩) xs.length cap) := by
  have hfl : (flat xs).length ≤ vs.size := by rw [length_flat hs]; have := Nat.mul_le_mul_right sz hxc; omega
  obtain ⟨M', m1, m2, m3, m4⟩ := h.newRow hsz hs T hfl hc cap hxc
  let hd : TH := ⟨some ⟨w.heap.size, xs.length * sz, none⟩, cap - xs.length, sz⟩
  let own' : Nat → Own := fun b => if b = w.heap.size then .tip i else (match G.own b with | .tip j => if j = i then .free else .tip j | o => o)
  have he := Ext.tpAt (G := G) hv m1 own' hd
  have ha := h.alloc (.cells vs T)
  have hown : ∀ b, G.own b ≠ .free → G.own b ≠ .tip i → own' b = G.own b := fun b hb hn => by
    have := (h.own b hb).1
    simp only [own']
    rw [if_neg (by omega)]
    split
    · rename_i j e
      split
      · rename_i hj; subst hj; exact absurd e hn
      · exact e.symm
    · rfl
  refine ⟨{ G with M := M', own := own', τ := fun j => if j = i then hd else G.τ j }, ⟨ha.os, ha.tape, ha.output, ha.size, ha.old, m3, Mem.le_trans h.base m1, h.lay, ?_, ?_, ?_, ?_, ?_, ?_, ha.rt, ha.rv⟩, he, ?_⟩
  · intro a v e
    rcases m2 a v e with e | ⟨e, _⟩
    · exact h.newM a v e
    · exact .inr (.inl (by rw [e]; exact h.size))
  · intro b hb
    by_cases hbs : b = w.heap.size
    · subst hbs; exact ⟨by simp, .inr h.size⟩
    · simp only [own'] at hb
      rw [if_neg hbs] at hb
      refine ha.own b (fun e => hb ?_)
      rw [e]
  · intro a v e
    rcases m2 a v e with e | ⟨e, e2⟩
    · have := M_lt h e
      rcases h.ownM a v e with e | ⟨j, ad, hj, e1, e2⟩
      · left; simp only [own']; rw [if_neg (by omega), e]
      · by_cases hji : j = i
        · left; simp only [own']; rw [if_neg (by omega), e1]; simp [hji]
        · right
          refine ⟨j, ad, Nat.lt_of_lt_of_le hj hv.len, (hown _ (by rw [e1]; simp) (by rw [e1]; simp [hji])).trans e1, ?_⟩
          simp only [if_neg hji]; exact e2
    · right
      have hil : i < tp'.length := (List.getElem?_eq_some_iff.1 hv.at_).1
      exact ⟨i, _, hil, by simp only [own']; rw [if_pos e], by simp only [if_true]; rfl, e2⟩
  · intro j z cs b h1 h2
    obtain ⟨q1, q2, q3, us, q4, q5⟩ := ha.bx j z cs b h1 h2
    have q2' := (h.bx j z cs b h1 h2).2.1
    refine ⟨?_, q2, q3, us, q4, q5.ext he⟩
    simp only [own']; rw [if_neg (by omega), q1]; cases z <;> rfl
  · intro j ver' sz' ys h1
    obtain ⟨q0, q1, q2⟩ := ha.vc j ver' sz' ys h1
    refine ⟨q0, q1, ?_⟩
    rcases q2 with q2 | ⟨b, o, us, T', k1, k2, k3, k4, k5, k6⟩
    · exact .inl q2
    · exact .inr ⟨b, o, us, T', k1, (hown b (by rw [k2]; simp) (by rw [k2]; simp)).trans k2, k3, k4, k5, fun j x k y e1 e2 => by obtain ⟨v, e3, e4⟩ := k6 j x k y e1 e2; exact ⟨v, e3, e4.mono m1⟩⟩
  · intro j e h1
    by_cases hji : j = i
    · subst hji
      simp only at h1
      rw [hv.at_] at h1
      obtain rfl := Option.some.inj h1
      simp only [if_true]
      refine ⟨⟨rfl, hsz⟩, .inr ⟨w.heap.size, xs.length * sz, vs, T, rfl, by simp [own'], heap_alloc_new' w _, ?_⟩⟩
      simp only [hd]
      rw [← Nat.add_mul, show xs.length + (cap - xs.length) = cap by omega]
      exact hcap
    · simp only at h1
      rw [hv.other j hji] at h1
      obtain ⟨q0, q2⟩ := ha.tp j e h1
      simp only [if_neg hji]
      refine ⟨q0, ?_⟩
      rcases q2 with q2 | ⟨b, o, us, T', k1, k2, k3⟩
      · exact .inl q2
      · exact .inr ⟨b, o, us, T', k1, (hown b (by rw [k2]; simp) (by rw [k2]; simp [hji])).trans k2, k3⟩
  · have hil : i < tp'.length := (List.getElem?_eq_some_iff.1 hv.at_).1
    refine ⟨hil, m4, fun cur h1 => ?_⟩
    simp only at h1
    rw [hv.at_] at h1
    obtain rfl := Option.some.inj h1
    refine ⟨Nat.le_refl _, fun _ => ⟨⟨_, by simp only [if_true, hd]; congr 1; omega, fun _ => ?_⟩, by simp only [if_true, hd]; exact hs⟩⟩
    simp only [if_true, hd, Option.map_some, Addr.add_lit, Nat.zero_add]
end
end Go.AL

/- Memory of the call's own: what is appended where there is room. -/
set_option linter.unusedVariables false
set_option linter.unusedSimpArgs false
namespace Go.AL
open Go.RowKit

def splice (vs : Array Value) (o : Nat) (us : List Value) : Array Value := (vs.toList.take o ++ us ++ vs.toList.drop (o + us.length)).toArray
theorem size_splice {vs : Array Value} {o : Nat} {us : List Value} (h : o + us.length ≤ vs.size) : (splice vs o us).size = vs.size := by
  simp [splice]; omega
theorem splice_old {vs : Array Value} {o : Nat} {us : List Value} (h : o + us.length ≤ vs.size) {k : Nat} (hk : k < o ∨ o + us.length ≤ k) : (splice vs o us)[k]? = vs[k]? := by
  simp only [splice, List.getElem?_toArray, ← Array.getElem?_toList]
  rcases hk with hk | hk
  · rw [List.getElem?_append_left (by simp; omega), List.getElem?_append_left (by simp; omega), List.getElem?_take, if_pos hk]
  · rw [List.getElem?_append_right (by simp; omega), List.getElem?_drop]
    congr 1
    simp; omega
theorem splice_new {vs : Array Value} {o : Nat} {us : List Value} (h : o + us.length ≤ vs.size) {k : Nat} (hk : k < us.length) : (splice vs o us)[o + k]? = us[k]? := by
  simp only [splice, List.getElem?_toArray]
  rw [List.getElem?_append_left (by simp; omega), List.getElem?_append_right (by simp; omega)]
  congr 1
  simp; omega

section
variable {F : Fr} {w0 : World} {M0 : Mem} {G : Gh} {s : St} {w : World}

/-- More elements behind those of a slice. -/
theorem rep_more {M M' : Mem} {xs ys : List PV} {A : Addr} {c sz : Nat} (h : PRep M (.lst xs) (.slice (some A) xs.length c)) (hM : M.le M') (hx : ∀ x, x ∈ xs → x.cells.length = sz) (hy : ∀ y, y ∈ ys → y.cells.length = sz) (hsz : 0 < sz)
    (hroom : xs.length + ys.length ≤ c) (hc : ∀ (i : Nat) p, (flat ys)[i]? = some p → ∃ u, M' (A.add (xs.length * sz + i)) = some u ∧ PRep M' p u ∧ p.one = true) : PRep M' (.lst (xs ++ ys)) (.slice (some A) (xs ++ ys).length c) := by
  cases h with
  | lst xs A' cap sz' vs hsz' hcap hs ho hA hm hr =>
    have hsz2 : xs ≠ [] → sz' = sz := fun hne => by
      obtain ⟨x, hxm⟩ := List.exists_mem_of_ne_nil _ hne
      rw [← hs x hxm, ← hx x hxm]
    have hone : ∀ x, x ∈ xs ++ ys → ∀ y, y ∈ x.cells → y.one = true := fun x hxm y hym => by
      rcases List.mem_append.1 hxm with hxm | hxm
      · exact ho x hxm y hym
      · obtain ⟨j, hj, rfl⟩ := List.mem_iff_getElem.1 hxm
        obtain ⟨k, hk, rfl⟩ := List.mem_iff_getElem.1 hym
        exact (hc _ _ (flat_get hy (List.getElem?_eq_getElem hj) (List.getElem?_eq_getElem hk))).choose_spec.2.2
    have key : ∀ j x k y, (xs ++ ys)[j]? = some x → x.cells[k]? = some y → ∃ u, M' (A.add (j * sz + k)) = some u ∧ PRep M' y u := by
      intro j x k y h1 h2
      by_cases hj : j < xs.length
      · rw [List.getElem?_append_left hj] at h1
        have hne : xs ≠ [] := by intro e; subst e; simp at hj
        have := hm A rfl j x k y h1 h2
        rw [hsz2 hne] at this
        exact ⟨_, hM _ _ this, (hr j x k y h1 h2).mono hM⟩
      · rw [List.getElem?_append_right (by omega)] at h1
        obtain ⟨u, q1, q2, _⟩ := hc _ _ (flat_get hy h1 h2)
        rw [← Nat.add_assoc, ← Nat.add_mul, show xs.length + (j - xs.length) = j by omega] at q1
        exact ⟨u, q1, q2⟩
    refine .lst (xs ++ ys) (some A) c sz (fun j k => (M' (A.add (j * sz + k))).getD undef) hsz (by simpa using hroom) ?_ hone (by simp) ?_ ?_
    · intro x hxm
      rcases List.mem_append.1 hxm with hxm | hxm
      · exact hx x hxm
      · exact hy x hxm
    · intro ad had j x k y h1 h2
      obtain rfl := Option.some.inj had
      obtain ⟨u, q1, _⟩ := key j x k y h1 h2
      rw [q1]; rfl
    · intro j x k y h1 h2
      obtain ⟨u, q1, q2⟩ := key j x k y h1 h2
      rw [q1]; exact q2

theorem SRel.inBld (h : SRel F w0 M0 G s w) {i v sz : Nat} {xs ys : List PV} {A : Addr} {c : Nat} {us : List Value} (hv : s.tp[i]? = some (v, sz)) (hb : ARel G s (.bld i v xs) (.slice (some A) xs.length c)) (hsp : A.spot = none) (hroom : xs.length + ys.length ≤ c)
    (hs : ∀ y, y ∈ ys → y.cells.length = sz) (hc : CRel G.M (flat ys) us) (hpos : 0 < ys.length) :
    ∃ vs T, w.heap[A.block]? = some (.cells vs T (0, 0)) ∧ A.off + xs.length * sz + us.length ≤ vs.size ∧
    ∃ G', SRel F w0 M0 G' { s with tp := s.tp.set i (v + 1, sz) } (w.setRow A.block (splice vs (A.off + xs.length * sz) us)) ∧ Ext G s G' { s with tp := s.tp.set i (v + 1, sz) } ∧
      ARel G' { s with tp := s.tp.set i (v + 1, sz) } (.bld i (v + 1) (xs ++ ys)) (.slice (some A) (xs.length + ys.length) c) := by
  obtain ⟨b, o0, spot⟩ := A
  simp only at hsp
  subst hsp
  obtain ⟨hil, hrep, htl⟩ := hb
  obtain ⟨⟨A', k1, k2⟩, k3⟩ := (htl _ hv).2 rfl
  injection k1 with k1 k1' k1''
  subst k1
  obtain ⟨⟨t1, t2⟩, t3⟩ := h.tp i _ hv
  simp only at t1
  rw [t1] at k2 t2 k3
  have htail := k2 (by omega)
  simp only [Option.map_some, Addr.add_lit] at htail
  rcases t3 with ⟨e, _⟩ | ⟨b', o, vs, T, g1, g2, g3, g4⟩
  · rw [e] at htail; cases htail
  rw [g1] at htail
  simp only [Option.some.injEq, Addr.mk.injEq, and_true] at htail
  obtain ⟨rfl, rfl⟩ := htail
  rw [t1] at g4
  have hul : us.length = ys.length * sz := by rw [hc.1, length_flat hs]
  have hle : ys.length * sz ≤ (G.τ i).room * sz := Nat.mul_le_mul_right _ (by omega)
  have hfit : o0 + xs.length * sz + us.length ≤ vs.size := by omega
  refine ⟨vs, T, g3, hfit, ?_⟩
  -- the memory that is told from now on
  let M' : Mem := fun a => if a.block = b ∧ a.spot = none ∧ o0 + xs.length * sz ≤ a.off ∧ a.off < o0 + xs.length * sz + us.length then us[a.off - (o0 + xs.length * sz)]? else G.M a
  have htailB : (G.τ i).tail = some ⟨b, o0 + xs.length * sz, none⟩ := g1
  have hMb : ∀ a u, G.M a = some u → a.block = b → a.off < o0 + xs.length * sz := fun a u e hab => by
    rcases h.ownM a u e with e' | ⟨j, ad, hj, e1, e2, e3⟩
    · rw [hab, g2] at e'; cases e'
    · rw [hab, g2] at e1
      injection e1 with e1
      subst e1
      rw [htailB] at e2
      obtain rfl := Option.some.inj e2
      exact e3
  have hM : G.M.le M' := fun a u e => by
    simp only [M']
    rw [if_neg]
    · exact e
    · rintro ⟨h1, h2, h3, h4⟩
      have := hMb a u e h1
      omega
  have hM2 : ∀ a u, M' a = some u → G.M a = some u ∨ (a.block = b ∧ a.spot = none ∧ a.off < o0 + xs.length * sz + us.length ∧ o0 + xs.length * sz ≤ a.off ∧ us[a.off - (o0 + xs.length * sz)]? = some u) := fun a u e => by
    simp only [M'] at e
    split at e
    · rename_i hcnd; exact .inr ⟨hcnd.1, hcnd.2.1, hcnd.2.2.2, hcnd.2.2.1, e⟩
    · exact .inl e
  let hd : TH := ⟨some ⟨b, o0 + xs.length * sz + us.length, none⟩, (G.τ i).room - ys.length, sz⟩
  have hv' := TpAt.set hv sz
  have he := Ext.tpAt (G := G) hv' hM G.own hd
  have hlt : b < w.heap.size := (h.own b (by rw [g2]; simp)).1
  have hne : ∀ b', G.own b' ≠ .tip i → b' ≠ b := fun b' hn e => hn (by rw [e]; exact g2)
  refine ⟨{ G with M := M', τ := fun j => if j = i then hd else G.τ j }, ⟨h.os, h.tape, h.output, by simpa [World.setRow] using h.size, ?_, ?_, Mem.le_trans h.base hM, h.lay, ?_, ?_, ?_, ?_, ?_, ?_, h.rt, h.rv⟩, he, ?_⟩
  · intro k hk hF
    have : k ≠ b := by
      rintro rfl
      rcases (h.own k (by rw [g2]; simp)).2 with p3 | p3
      · exact hF p3
      · omega
    rw [setRow_other w b k _ this]
    exact h.old k hk hF
  · intro a u e
    have hrow := setRow_heap w b vs (splice vs (o0 + xs.length * sz) us) T _ g3
    rcases hM2 a u e with e | ⟨h1, h2, h3, h4, h5⟩
    · by_cases hab : a.block = b
      · have hof := hMb a u e hab
        have hag := h.agree a u e
        simp only [World.cell?, hab, g3, hrow] at hag ⊢
        split at hag
        · cases hag
        · rename_i hs'
          rw [if_neg hs', splice_old hfit (.inl hof)]; exact hag
      · rw [setRow_cell_other _ _ _ hab]; exact h.agree a u e
    · obtain ⟨ab, ao, as⟩ := a
      simp only at h1 h2 h3 h4 h5
      subst h1; subst h2
      simp only [World.cell?, hrow]
      have : ao = o0 + xs.length * sz + (ao - (o0 + xs.length * sz)) := by omega
      rw [this]
      simp only [Option.isSome_none, Bool.false_eq_true, if_false]
      rw [splice_new hfit (by omega)]
      exact h5
  · intro a u e
    rcases hM2 a u e with e | ⟨h1, _⟩
    · exact h.newM a u e
    · rcases (h.own b (by rw [g2]; simp)).2 with p3 | p3
      · exact .inr (.inr (by rw [h1]; exact p3))
      · exact .inr (.inl (by rw [h1]; exact p3))
  · intro b' hb'
    exact ⟨by have := (h.own b' hb').1; simpa [World.setRow] using this, (h.own b' hb').2⟩
  · intro a u e
    rcases hM2 a u e with e | ⟨h1, h2, h3, h4, h5⟩
    · rcases h.ownM a u e with e' | ⟨j, ad, hj, e1, e2, e3⟩
      · exact .inl e'
      · right
        by_cases hji : j = i
        · subst hji
          refine ⟨j, _, by simpa using hj, e1, by simp only [if_true]; rfl, ?_⟩
          rw [htailB] at e2
          obtain rfl := Option.some.inj e2
          simp only at e3 ⊢; omega
        · exact ⟨j, ad, by simpa using hj, e1, by simp only [if_neg hji]; exact e2, e3⟩
    · right
      exact ⟨i, _, by simpa using hil, by rw [h1]; exact g2, by simp only [if_true]; rfl, h3⟩
  · intro j z cs b' h1 h2
    obtain ⟨q1, q2, q3, us', q4, q5⟩ := h.bx j z cs b' h1 h2
    refine ⟨q1, by simpa [World.setRow] using q2, q3, us', ?_, q5.ext he⟩
    rw [setRow_other w b b' _ (hne b' (by rw [q1]; cases z <;> simp))]
    exact q4
  · intro j ver' sz' ys' h1
    obtain ⟨q0, q1, q2⟩ := h.vc j ver' sz' ys' h1
    refine ⟨q0, q1, ?_⟩
    rcases q2 with q2 | ⟨b', o', us', T', m1, m2, m3, m4, m5, m6⟩
    · exact .inl q2
    · refine .inr ⟨b', o', us', T', m1, m2, ?_, m4, m5, fun j x k y e1 e2 => by obtain ⟨v, e3, e4⟩ := m6 j x k y e1 e2; exact ⟨v, e3, e4.mono hM⟩⟩
      rw [setRow_other w b b' _ (hne b' (by rw [m2]; simp))]
      exact m3
  · intro j e h1
    by_cases hji : j = i
    · subst hji
      simp only [List.getElem?_set_self hil, Option.some.injEq] at h1
      subst h1
      simp only [if_true]
      refine ⟨⟨rfl, t2⟩, .inr ⟨b, o0 + xs.length * sz + us.length, _, T, rfl, g2, setRow_heap w b vs _ T _ g3, ?_⟩⟩
      rw [size_splice hfit]
      simp only [hd]
      rw [Nat.sub_mul]
      omega
    · simp only [List.getElem?_set_ne (Ne.symm hji)] at h1
      obtain ⟨q0, q2⟩ := h.tp j e h1
      simp only [if_neg hji]
      refine ⟨q0, ?_⟩
      rcases q2 with q2 | ⟨b', o', us', T', m1, m2, m3, m4⟩
      · exact .inl q2
      · refine .inr ⟨b', o', us', T', m1, m2, ?_, m4⟩
        rw [setRow_other w b b' _ (hne b' (by rw [m2]; simp; omega))]
        exact m3
  · have hlen : (xs ++ ys).length = xs.length + ys.length := by simp
    refine ⟨by simpa using hil, ?_, fun cur h1 => ?_⟩
    · rw [← hlen]
      exact rep_more hrep hM k3 hs t2 hroom (fun i p hp => by
        have hi : i < (flat ys).length := (List.getElem?_eq_some_iff.1 hp).1
        have hi2 : i < us.length := by rw [hc.1]; exact hi
        obtain ⟨c1, c2⟩ := hc.2 i p us[i] hp (List.getElem?_eq_getElem hi2)
        refine ⟨us[i], ?_, c1.mono hM, c2⟩
        rw [Addr.add_lit]
        show (if b = b ∧ (none : Option Nat) = none ∧ o0 + xs.length * sz ≤ o0 + (xs.length * sz + i) ∧ o0 + (xs.length * sz + i) < o0 + xs.length * sz + us.length then us[o0 + (xs.length * sz + i) - (o0 + xs.length * sz)]? else _) = _
        rw [if_pos ⟨rfl, rfl, by omega, by omega⟩, show o0 + (xs.length * sz + i) - (o0 + xs.length * sz) = i by omega]
        exact List.getElem?_eq_getElem hi2)
    · simp only [List.getElem?_set_self hil, Option.some.injEq] at h1
      subst h1
      refine ⟨Nat.le_refl _, fun _ => ⟨⟨some ⟨b, o0, none⟩, ?_, fun _ => ?_⟩, ?_⟩⟩
      · simp only [if_true, hd, hlen]; congr 1; omega
      · simp only [if_true, hd, Option.map_some, Addr.add_lit, hlen]
        rw [Nat.add_mul, hul]; congr 2; omega
      · simp only [if_true, hd]
        intro x hx
        rcases List.mem_append.1 hx with hx | hx
        · exact k3 x hx
        · exact hs x hx
end
end Go.AL

/- Memory of the call's own: a vector that is cut, or goes on in its place; a box that never changes from now on; values that become plain. -/
set_option linter.unusedVariables false
set_option linter.unusedSimpArgs false
namespace Go.AL
open Go.RowKit

section
variable {F : Fr} {w0 : World} {M0 : Mem} {G : Gh} {s : St} {w : World}

theorem SRel.reVec (h : SRel F w0 M0 G s w) {i ver sz : Nat} {xs' : List PV} {vc' : List (Option (Nat × Nat × List PV))} (hv : VcAt s i (ver, sz, xs') vc') {b o' cap' : Nat} {vs vs' : Array Value} {T : TypeId} (ho : G.own b = .vec i) (hp : w.heap[b]? = some (.cells vs T (0, 0)))
    (hsz : 0 < sz) (hfit : o' + cap' * sz ≤ vs'.size) (hxc : xs'.length ≤ cap') (hs : ∀ x, x ∈ xs' → x.cells.length = sz ∧ ∀ y, y ∈ x.cells → y.one = true)
    (hc : ∀ j x k y, xs'[j]? = some x → x.cells[k]? = some y → ∃ v, vs'[o' + (j * sz + k)]? = some v ∧ PRep G.M y v) :
    ∃ G', SRel F w0 M0 G' { s with vc := vc' } (w.setRow b vs') ∧ Ext G s G' { s with vc := vc' } ∧ ARel G' { s with vc := vc' } (.vec i ver) (.slice (some ⟨b, o', none⟩) xs'.length cap') := by
  let hd : VH := ⟨some ⟨b, o', none⟩, cap', sz⟩
  have he := Ext.vcAt (G := G) hv G.own hd
  have hne : ∀ b', G.own b' ≠ .vec i → b' ≠ b := fun b' hn e => hn (by rw [e]; exact ho)
  refine ⟨{ G with own := G.own, ν := fun j => if j = i then hd else G.ν j }, ⟨h.os, h.tape, h.output, by simpa [World.setRow] using h.size, ?_, ?_, h.base, h.lay, h.newM, ?_, h.ownM, ?_, ?_, ?_, h.rt, h.rvAt hv hd _ fun j hj => if_neg hj⟩, he, ?_⟩
  · intro k hk hF
    have : k ≠ b := by
      rintro rfl
      rcases (h.own k (by rw [ho]; simp)).2 with p3 | p3
      · exact hF p3
      · omega
    rw [setRow_other w b k vs' this]
    exact h.old k hk hF
  · intro a v hM
    rw [setRow_cell_other]
    · exact h.agree a v hM
    · refine hne _ ?_
      rcases h.ownM a v hM with e | ⟨j, ad, _, e, _⟩ <;> rw [e] <;> simp
  · intro b' hb'
    exact ⟨by have := (h.own b' hb').1; simpa [World.setRow] using this, (h.own b' hb').2⟩
  · intro j z cs2 b' h1 h2
    obtain ⟨q1, q2, q3, us, q4, q5⟩ := h.bx j z cs2 b' h1 h2
    refine ⟨q1, by simpa [World.setRow] using q2, q3, us, ?_, q5.ext he⟩
    rw [setRow_other w b b' vs' (hne b' (by rw [q1]; cases z <;> simp))]
    exact q4
  · intro j ver' sz' ys h1
    by_cases hji : j = i
    · subst hji
      simp only at h1
      rw [hv.at_] at h1
      simp only [Option.some.injEq, Prod.mk.injEq] at h1
      obtain ⟨rfl, rfl, rfl⟩ := h1
      simp only [if_true]
      exact ⟨⟨rfl, hsz⟩, hs, .inr ⟨b, o', vs', T, rfl, ho, setRow_heap w b vs vs' T _ hp, hfit, hxc, hc⟩⟩
    · simp only at h1
      rw [hv.other j hji] at h1
      obtain ⟨q0, q1, q2⟩ := h.vc j ver' sz' ys h1
      simp only [if_neg hji]
      refine ⟨q0, q1, ?_⟩
      rcases q2 with q2 | ⟨b', o, us, T', k1, k2, k3, k4⟩
      · exact .inl q2
      · refine .inr ⟨b', o, us, T', k1, k2, ?_, k4⟩
        rw [setRow_other w b b' vs' (hne b' (by rw [k2]; simp; omega))]
        exact k3
  · intro j e h1
    obtain ⟨q0, q2⟩ := h.tp j e h1
    refine ⟨q0, ?_⟩
    rcases q2 with q2 | ⟨b', o, us, T', k1, k2, k3, k4⟩
    · exact .inl q2
    · refine .inr ⟨b', o, us, T', k1, k2, ?_, k4⟩
      rw [setRow_other w b b' vs' (hne b' (by rw [k2]; simp))]
      exact k3
  · have hil : i < vc'.length := (List.getElem?_eq_some_iff.1 hv.at_).1
    refine ⟨hil, ⟨_, _, _, rfl⟩, fun cur ys h1 => ?_⟩
    simp only at h1
    rw [hv.at_] at h1
    simp only [Option.some.injEq, Prod.mk.injEq] at h1
    obtain ⟨rfl, rfl⟩ := h1
    exact ⟨Nat.le_refl _, fun _ => by simp [hd]⟩

/-- A vector that is cut to nothing of a nil slice: it isn't made at all; the number goes on. -/
theorem SRel.reVecNil (h : SRel F w0 M0 G s w) {i ver v sz : Nat} (hi : s.vc[i]? = some (some (v, sz, []))) (hlt : v < ver) (hA : (G.ν i).A = none) (hcap : (G.ν i).cap = 0) :
    SRel F w0 M0 G { s with vc := s.vc.set i (some (ver, sz, [])) } w ∧ Ext G s G { s with vc := s.vc.set i (some (ver, sz, [])) } ∧ ARel G { s with vc := s.vc.set i (some (ver, sz, [])) } (.vec i ver) (.slice none 0 0) := by
  have hil : i < s.vc.length := (List.getElem?_eq_some_iff.1 hi).1
  have hv := VcAt.set hi (ver, sz, []) hlt
  have he : Ext G s G { s with vc := s.vc.set i (some (ver, sz, [])) } :=
    ⟨Mem.le_refl _, Nat.le_refl _, by simp, Nat.le_refl _, fun _ _ _ h => h, fun j hj cur' xs' hc => by
      by_cases hji : j = i
      · subst hji
        simp only [List.getElem?_set_self hil, Option.some.injEq, Prod.mk.injEq] at hc
        obtain ⟨rfl, rfl⟩ := hc
        exact ⟨v, (sz, []), hi, Nat.le_of_lt hlt, fun e => by omega⟩
      · simp only [List.getElem?_set_ne (Ne.symm hji)] at hc
        exact ⟨cur', xs', hc, Nat.le_refl _, fun _ => ⟨rfl, rfl⟩⟩, fun i _ cur h => ⟨cur, h, Nat.le_refl _, fun _ => rfl⟩⟩
  obtain ⟨r0, r1, r2⟩ := h.vc i v sz [] hi
  refine ⟨⟨h.os, h.tape, h.output, h.size, h.old, h.agree, h.base, h.lay, h.newM, h.own, h.ownM, ?_, ?_, h.tp, h.rt, h.rvAt hv (G.ν i) _ fun j hj => rfl⟩, he, ?_⟩
  · intro j z cs2 b' h1 h2
    obtain ⟨q1, q2, q3, us, q4, q5⟩ := h.bx j z cs2 b' h1 h2
    exact ⟨q1, q2, q3, us, q4, q5.ext he⟩
  · intro j ver' sz' ys h1
    by_cases hji : j = i
    · subst hji
      simp only [List.getElem?_set_self hil, Option.some.injEq, Prod.mk.injEq] at h1
      obtain ⟨rfl, rfl, rfl⟩ := h1
      exact ⟨r0, by simp, .inl ⟨hA, hcap, rfl⟩⟩
    · simp only [List.getElem?_set_ne (Ne.symm hji)] at h1
      exact h.vc j ver' sz' ys h1
  · refine ⟨by simpa using hil, ⟨_, _, _, rfl⟩, fun cur ys h1 => ?_⟩
    simp only [List.getElem?_set_self hil, Option.some.injEq, Prod.mk.injEq] at h1
    obtain ⟨rfl, rfl⟩ := h1
    exact ⟨Nat.le_refl _, fun _ => by rw [hA, hcap]; rfl⟩

theorem rvNone (h : SRel F w0 M0 G s w) (i : Nat) : ∀ j, j < s.nv → j < (s.vc.set i none).length ∧ ∀ xs, (s.vc.set i none)[j]? = some (some (0, xs)) → G.ν j = F.rv j ∧ xs.2.length = F.rl j := by
  intro j hj
  obtain ⟨g1, g2⟩ := h.rv j hj
  refine ⟨by simpa using g1, fun xs hx => ?_⟩
  by_cases hji : i = j
  · subst hji
    rw [List.getElem?_set_self g1] at hx
    cases hx
  · rw [List.getElem?_set_ne hji] at hx
    exact g2 xs hx

/-- Memory of a vector that never changes from now on: the vector is gone, its elements are plain. -/
theorem SRel.pubVecM (h : SRel F w0 M0 G s w) {i ver sz : Nat} {xs : List PV} (hi : s.vc[i]? = some (some (ver, sz, xs))) {v : Value} (hv : ARel G s (.vec i ver) v) :
    ∃ G', SRel F w0 M0 G' { s with vc := s.vc.set i none } w ∧ Ext G s G' { s with vc := s.vc.set i none } ∧ PRep G'.M (.lst xs) v ∧ G'.μ = G.μ ∧ (∀ ad, (G.ν i).A = some ad → G'.own ad.block = .free) ∧ ∀ a u, G'.M a = some u → G.M a = some u ∨ ∃ ad, (G.ν i).A = some ad ∧ a.block = ad.block ∧ a.off < ad.off + xs.length * sz := by
  have hil : i < s.vc.length := (List.getElem?_eq_some_iff.1 hi).1
  have e1 := (hv.2.2 _ _ hi).2 rfl
  obtain ⟨⟨r0, r0'⟩, r1, r2⟩ := h.vc i ver sz xs hi
  rcases r2 with ⟨g1, g2, rfl⟩ | ⟨b, o, vs, T, g1, g2, g3, g4, g5, g6⟩
  · have he : Ext G s G { s with vc := s.vc.set i none } :=
      ⟨Mem.le_refl _, Nat.le_refl _, by simp, Nat.le_refl _, fun _ _ _ h => h, fun j hj cur' xs' hc => by
        by_cases hji : j = i
        · subst hji
          simp [List.getElem?_set_self hil] at hc
        · simp only [List.getElem?_set_ne (Ne.symm hji)] at hc
          exact ⟨cur', xs', hc, Nat.le_refl _, fun _ => ⟨rfl, rfl⟩⟩, fun i _ cur h => ⟨cur, h, Nat.le_refl _, fun _ => rfl⟩⟩
    refine ⟨G, ⟨h.os, h.tape, h.output, h.size, h.old, h.agree, h.base, h.lay, h.newM, h.own, h.ownM, ?_, ?_, h.tp, h.rt, rvNone h i⟩, he, ?_, rfl, fun ad e => (by rw [g1] at e; cases e), fun a u e => .inl e⟩
    · intro j z cs2 b' h1 h2
      obtain ⟨q1, q2, q3, us, q4, q5⟩ := h.bx j z cs2 b' h1 h2
      exact ⟨q1, q2, q3, us, q4, q5.ext he⟩
    · intro j ver' sz' ys h1
      by_cases hji : j = i
      · subst hji; simp [List.getElem?_set_self hil] at h1
      · simp only [List.getElem?_set_ne (Ne.symm hji)] at h1
        exact h.vc j ver' sz' ys h1
    · rw [e1, g1, g2]
      exact PRep.lst [] none 0 1 (fun _ _ => undef) (by omega) (by simp) (by simp) (by simp) (by simp) (by simp) (by simp)
  · -- its cells are told from now on
    let N := xs.length * sz
    let M' : Mem := fun a => if a.block = b ∧ a.spot = none ∧ o ≤ a.off ∧ a.off < o + N then vs[a.off]? else G.M a
    have hMb : ∀ a u, G.M a = some u → a.block ≠ b := fun a u e hab => by
      rcases h.ownM a u e with e' | ⟨j, ad, hj, e1, _⟩
      · rw [hab, g2] at e'; cases e'
      · rw [hab, g2] at e1; cases e1
    have hM : G.M.le M' := fun a u e => by
      simp only [M']; rw [if_neg (fun hc => hMb a u e hc.1)]; exact e
    have hM2 : ∀ a u, M' a = some u → G.M a = some u ∨ (a.block = b ∧ a.spot = none ∧ vs[a.off]? = some u) := fun a u e => by
      simp only [M'] at e
      split at e
      · rename_i hc; exact .inr ⟨hc.1, hc.2.1, e⟩
      · exact .inl e
    let own' : Nat → Own := fun b' => if b' = b then .free else G.own b'
    let G' : Gh := { G with M := M', own := own' }
    have he : Ext G s G' { s with vc := s.vc.set i none } :=
      ⟨hM, Nat.le_refl _, by simp, Nat.le_refl _, fun _ _ _ h => h, fun j hj cur' xs' hc => by
        by_cases hji : j = i
        · subst hji
          simp [List.getElem?_set_self hil] at hc
        · simp only [List.getElem?_set_ne (Ne.symm hji)] at hc
          exact ⟨cur', xs', hc, Nat.le_refl _, fun _ => ⟨rfl, rfl⟩⟩, fun i _ cur h => ⟨cur, h, Nat.le_refl _, fun _ => rfl⟩⟩
    have hown : ∀ b', G.own b' ≠ .vec i → own' b' = G.own b' := fun b' hn => by
      simp only [own']; rw [if_neg (fun e => hn (by rw [e]; exact g2))]
    refine ⟨G', ⟨h.os, h.tape, h.output, h.size, h.old, ?_, Mem.le_trans h.base hM, h.lay, ?_, ?_, ?_, ?_, ?_, ?_, h.rt, rvNone h i⟩, he, ?_, rfl, fun ad e => ?_, fun a u e => ?_⟩
    · intro a u e
      rcases hM2 a u e with e | ⟨h1, h2, h3⟩
      · exact h.agree a u e
      · obtain ⟨ab, ao, as⟩ := a
        simp only at h1 h2 h3
        subst h1; subst h2
        simp [World.cell?, g3, h3]
    · intro a u e
      rcases hM2 a u e with e | ⟨h1, _⟩
      · exact h.newM a u e
      · rcases (h.own b (by rw [g2]; simp)).2 with p3 | p3
        · exact .inr (.inr (by rw [h1]; exact p3))
        · exact .inr (.inl (by rw [h1]; exact p3))
    · intro b' hb'
      by_cases hbb : b' = b
      · subst hbb; exact absurd (by simp [G', own']) hb'
      · refine h.own b' (fun e => hb' ?_)
        simp only [G', own']; rw [if_neg hbb]; exact e
    · intro a u e
      rcases hM2 a u e with e | ⟨h1, _⟩
      · have hab := hMb a u e
        rcases h.ownM a u e with e' | ⟨j, ad, hj, e1, e2⟩
        · left; simp only [G', own']; rw [if_neg hab]; exact e'
        · right; exact ⟨j, ad, hj, by simp only [G', own']; rw [if_neg hab]; exact e1, e2⟩
      · left; simp only [G', own']; rw [if_pos h1]
    · intro j z cs2 b' h1 h2
      obtain ⟨q1, q2, q3, us, q4, q5⟩ := h.bx j z cs2 b' h1 h2
      exact ⟨(hown b' (by rw [q1]; cases z <;> simp)).trans q1, q2, q3, us, q4, q5.ext he⟩
    · intro j ver' sz' ys h1
      by_cases hji : j = i
      · subst hji; simp [List.getElem?_set_self hil] at h1
      · simp only [List.getElem?_set_ne (Ne.symm hji)] at h1
        obtain ⟨q0, q1, q2⟩ := h.vc j ver' sz' ys h1
        refine ⟨q0, q1, ?_⟩
        rcases q2 with q2 | ⟨b', o, us, T', k1, k2, k3, k4, k5, k6⟩
        · exact .inl q2
        · exact .inr ⟨b', o, us, T', k1, (hown b' (by rw [k2]; simp; omega)).trans k2, k3, k4, k5, fun j x k y e1 e2 => by obtain ⟨v, e3, e4⟩ := k6 j x k y e1 e2; exact ⟨v, e3, e4.mono hM⟩⟩
    · intro j e h1
      obtain ⟨q0, q2⟩ := h.tp j e h1
      refine ⟨q0, ?_⟩
      rcases q2 with q2 | ⟨b', o, us, T', k1, k2, k3⟩
      · exact .inl q2
      · exact .inr ⟨b', o, us, T', k1, (hown b' (by rw [k2]; simp)).trans k2, k3⟩
    · rw [e1, g1]
      rw [r0] at g4 r0' g6
      refine .lst xs _ _ sz (fun j k => vs.getD (o + (j * sz + k)) undef) r0' g5 (fun x hx => by rw [(r1 x hx).1, r0]) (fun x hx => (r1 x hx).2) (by simp) ?_ ?_
      · intro ad had j x k y h1 h2
        obtain rfl := Option.some.inj had
        obtain ⟨u, q1, q2⟩ := g6 j x k y h1 h2
        have hj : j < xs.length := (List.getElem?_eq_some_iff.1 h1).1
        have hk : k < sz := by have := (List.getElem?_eq_some_iff.1 h2).1; rw [(r1 x (List.mem_of_getElem? h1)).1, r0] at this; exact this
        have hlt : j * sz + k < N := by
          have : (j + 1) * sz ≤ xs.length * sz := Nat.mul_le_mul_right _ hj
          rw [Nat.succ_mul] at this
          simp only [N]; omega
        rw [Addr.add_lit]
        show (if b = b ∧ (none : Option Nat) = none ∧ o ≤ o + (j * sz + k) ∧ o + (j * sz + k) < o + N then vs[o + (j * sz + k)]? else _) = _
        rw [if_pos ⟨rfl, rfl, by omega, by omega⟩, q1]
        simp [Array.getD, (Array.getElem?_eq_some_iff.1 q1).1, (Array.getElem?_eq_some_iff.1 q1).2]
      · intro j x k y h1 h2
        obtain ⟨u, q1, q2⟩ := g6 j x k y h1 h2
        have : vs.getD (o + (j * sz + k)) undef = u := by simp [Array.getD, (Array.getElem?_eq_some_iff.1 q1).1, (Array.getElem?_eq_some_iff.1 q1).2]
        rw [this]
        exact q2.mono hM
    · rw [g1] at e
      obtain rfl := Option.some.inj e
      simp [G', own']
    · simp only [G', M'] at e
      split at e
      · rename_i hc; exact .inr ⟨_, g1, hc.1, hc.2.2.2⟩
      · exact .inl e
theorem SRel.pubVec (h : SRel F w0 M0 G s w) {i ver sz : Nat} {xs : List PV} (hi : s.vc[i]? = some (some (ver, sz, xs))) {v : Value} (hv : ARel G s (.vec i ver) v) :
    ∃ G', SRel F w0 M0 G' { s with vc := s.vc.set i none } w ∧ Ext G s G' { s with vc := s.vc.set i none } ∧ PRep G'.M (.lst xs) v := by
  obtain ⟨G', h1, h2, h3, _⟩ := h.pubVecM hi hv
  exact ⟨G', h1, h2, h3⟩
end
end Go.AL

/- Memory of the call's own: frozen boxes; calls that are handed slices which may be appended to, and hand some back. -/
set_option linter.unusedVariables false
set_option linter.unusedSimpArgs false
namespace Go.AL
open Go.RowKit

section
variable {F : Fr} {w0 : World} {M0 : Mem} {G : Gh} {s : St} {w : World}

/-- The number of a builder's version goes on. -/
theorem SRel.bump (h : SRel F w0 M0 G s w) {i v sz : Nat} (hi : s.tp[i]? = some (v, sz)) : SRel F w0 M0 G { s with tp := s.tp.set i (v + 1, sz) } w ∧ Ext G s G { s with tp := s.tp.set i (v + 1, sz) } := by
  have hil : i < s.tp.length := (List.getElem?_eq_some_iff.1 hi).1
  have he : Ext G s G { s with tp := s.tp.set i (v + 1, sz) } :=
    ⟨Mem.le_refl _, Nat.le_refl _, Nat.le_refl _, by simp, fun _ _ _ h => h, fun i _ cur xs h => ⟨cur, xs, h, Nat.le_refl _, fun _ => ⟨rfl, rfl⟩⟩, fun j hj cur' hc => by
      by_cases hji : j = i
      · subst hji
        simp only [List.getElem?_set_self hil, Option.some.injEq] at hc
        subst hc
        exact ⟨_, hi, by simp, fun e => by simp at e⟩
      · simp only [List.getElem?_set_ne (Ne.symm hji)] at hc
        exact ⟨cur', hc, Nat.le_refl _, fun _ => rfl⟩⟩
  refine ⟨⟨h.os, h.tape, h.output, h.size, h.old, h.agree, h.base, h.lay, h.newM, h.own, ?_, ?_, h.vc, ?_, h.rt, h.rv⟩, he⟩
  · intro a u e
    rcases h.ownM a u e with e | ⟨j, ad, hj, e1⟩
    · exact .inl e
    · exact .inr ⟨j, ad, by simpa using hj, e1⟩
  · intro j z cs b h1 h2
    obtain ⟨q1, q2, q3, us, q4, q5⟩ := h.bx j z cs b h1 h2
    exact ⟨q1, q2, q3, us, q4, q5.ext he⟩
  · intro j e h1
    by_cases hji : j = i
    · subst hji
      simp only [List.getElem?_set_self hil, Option.some.injEq] at h1
      subst h1
      exact h.tp j (v, sz) hi
    · simp only [List.getElem?_set_ne (Ne.symm hji)] at h1
      exact h.tp j e h1

theorem toPVs_get {bs : List AV} {ps : List PV} (h : toPVs bs = some ps) : ps.length = bs.length ∧ ∀ (i : Nat) b, bs[i]? = some b → ∃ p, ps[i]? = some p ∧ b.toPV = some p := by
  induction bs generalizing ps with
  | nil => obtain rfl := Option.some.inj h; exact ⟨rfl, by simp⟩
  | cons a bs ih =>
    simp only [toPVs] at h
    split at h
    · rename_i p ps' hp hps
      obtain rfl := Option.some.inj h
      obtain ⟨g1, g2⟩ := ih hps
      refine ⟨by simp [g1], fun i b hb => ?_⟩
      cases i with
      | zero => simp at hb; subst hb; exact ⟨p, rfl, hp⟩
      | succ i => exact g2 i b (by simpa using hb)
    · cases h

theorem toPV_one {b : AV} {p : PV} (h : b.toPV = some p) (hc : b.cell = true) : p.one = true := by
  cases b <;> simp [AV.toPV] at h
  · subst h; rw [PV.one_weak]; exact hc
  · subst h; rfl

theorem toPVs_cells {cs : List AV} {ps : List PV} (h : toPVs cs = some ps) : isCells cs = true := by
  unfold isCells
  split
  · simp [toPVs, AV.toPV] at h
  · rfl

/-- A box that never changes from now on. -/
theorem SRel.freeze (h : SRel F w0 M0 G s w) {i b : Nat} {z : Bool} {cs : List AV} {ps : List PV} (hi : s.bx[i]? = some (z, cs)) (hb : G.μ i = some b) (hps : toPVs cs = some ps) (hone : ∀ p, p ∈ ps → p.one = true) :
    ∃ G', SRel F w0 M0 G' { s with bx := s.bx.set i (true, cs) } w ∧ Ext G s G' { s with bx := s.bx.set i (true, cs) } ∧ PRep G'.M (.ptr ps) (.pointer (some ⟨b, 0, none⟩)) := by
  have hil : i < s.bx.length := (List.getElem?_eq_some_iff.1 hi).1
  obtain ⟨p1, p2, p3, ob, p4, p0⟩ := h.bx i z cs b hi hb
  obtain ⟨vs, T, rfl, p5, p6⟩ := p0.cells (toPVs_cells hps)
  obtain ⟨l1, l2⟩ := toPVs_get hps
  let M' : Mem := fun a => if a.block = b ∧ a.spot = none ∧ a.off < vs.size then vs[a.off]? else G.M a
  have hM : G.M.le M' := fun a u e => by
    simp only [M']
    split
    · rename_i hc
      have := h.agree a u e
      obtain ⟨ab, ao, as⟩ := a
      simp only at hc
      obtain ⟨rfl, rfl, _⟩ := hc
      simpa [World.cell?, p4] using this
    · exact e
  have hM2 : ∀ a u, M' a = some u → G.M a = some u ∨ (a.block = b ∧ a.spot = none ∧ vs[a.off]? = some u) := fun a u e => by
    simp only [M'] at e
    split at e
    · rename_i hc; exact .inr ⟨hc.1, hc.2.1, e⟩
    · exact .inl e
  let own' : Nat → Own := fun b' => if b' = b then .free else G.own b'
  let G' : Gh := { G with M := M', own := own' }
  have he : Ext G s G' { s with bx := s.bx.set i (true, cs) } :=
    ⟨hM, by simp, Nat.le_refl _, Nat.le_refl _, fun _ _ _ h => h, fun i _ cur xs h => ⟨cur, xs, h, Nat.le_refl _, fun _ => ⟨rfl, rfl⟩⟩, fun i _ cur h => ⟨cur, h, Nat.le_refl _, fun _ => rfl⟩⟩
  have hown : ∀ b', G.own b' ≠ .free → (∀ j, G.own b' ≠ .box j) → own' b' = G.own b' := fun b' h1 h2 => by
    simp only [own']
    rw [if_neg]
    rintro rfl
    cases z
    · exact h2 i p1
    · exact h1 p1
  refine ⟨G', ⟨h.os, h.tape, h.output, h.size, h.old, ?_, Mem.le_trans h.base hM, h.lay, ?_, ?_, ?_, ?_, ?_, ?_, ⟨h.rt.1, fun i hi => ⟨by simpa using (h.rt.2 i hi).1, (h.rt.2 i hi).2⟩⟩, h.rv⟩, he, ?_⟩
  · intro a u e
    rcases hM2 a u e with e | ⟨h1, h2, h3⟩
    · exact h.agree a u e
    · obtain ⟨ab, ao, as⟩ := a
      simp only at h1 h2 h3
      subst h1; subst h2
      simp [World.cell?, p4, h3]
  · intro a u e
    rcases hM2 a u e with e | ⟨h1, _⟩
    · exact h.newM a u e
    · rcases p3 with p3 | p3
      · exact .inr (.inr (by rw [h1]; exact p3))
      · exact .inr (.inl (by rw [h1]; exact p3))
  · intro b' hb'
    by_cases hbb : b' = b
    · subst hbb; exact absurd (by simp [G', own']) hb'
    · refine h.own b' (fun e => hb' ?_)
      simp only [G', own']; rw [if_neg hbb]; exact e
  · intro a u e
    by_cases hab : a.block = b
    · left; simp only [G', own']; rw [if_pos hab]
    · rcases hM2 a u e with e | ⟨h1, _⟩
      · rcases h.ownM a u e with e' | ⟨j, ad, hj, e1, e2⟩
        · left; simp only [G', own']; rw [if_neg hab]; exact e'
        · right; exact ⟨j, ad, hj, by simp only [G', own']; rw [if_neg hab]; exact e1, e2⟩
      · exact absurd h1 hab
  · intro j z2 cs2 b' h1 h2
    by_cases hij : i = j
    · subst hij
      simp only [List.getElem?_set_self hil, Option.some.injEq, Prod.mk.injEq] at h1
      obtain ⟨rfl, rfl⟩ := h1
      have h2' : G.μ i = some b' := h2
      rw [hb] at h2'
      obtain rfl := Option.some.inj h2'
      exact ⟨by simp [G', own'], p2, p3, _, p4, p0.ext he⟩
    · simp only [List.getElem?_set_ne hij] at h1
      obtain ⟨q1, q2, q3, us, q4, q5⟩ := h.bx j z2 cs2 b' h1 h2
      refine ⟨?_, q2, q3, us, q4, q5.ext he⟩
      simp only [G', own']
      split
      · rename_i hbb
        subst hbb
        rw [p1] at q1
        cases z <;> cases z2 <;> simp at q1 ⊢
        · exact absurd q1 hij
      · exact q1
  · intro j ver' sz' ys h1
    obtain ⟨q0, q1, q2⟩ := h.vc j ver' sz' ys h1
    refine ⟨q0, q1, ?_⟩
    rcases q2 with q2 | ⟨b', o, us, T', k1, k2, k3, k4, k5, k6⟩
    · exact .inl q2
    · exact .inr ⟨b', o, us, T', k1, (hown b' (by rw [k2]; simp) (fun j => by rw [k2]; simp)).trans k2, k3, k4, k5, fun j x k y e1 e2 => by obtain ⟨v, e3, e4⟩ := k6 j x k y e1 e2; exact ⟨v, e3, e4.mono hM⟩⟩
  · intro j e h1
    obtain ⟨q0, q2⟩ := h.tp j e h1
    refine ⟨q0, ?_⟩
    rcases q2 with q2 | ⟨b', o, us, T', k1, k2, k3⟩
    · exact .inl q2
    · exact .inr ⟨b', o, us, T', k1, (hown b' (by rw [k2]; simp) (fun j => by rw [k2]; simp)).trans k2, k3⟩
  · have key : ∀ (k : Nat) c, ps[k]? = some c → M' ⟨b, k, none⟩ = some (vs.getD k undef) ∧ PRep M' c (vs.getD k undef) := by
      intro k c hk
      have hkl : k < cs.length := by rw [← l1]; exact (List.getElem?_eq_some_iff.1 hk).1
      have hkv : k < vs.size := by omega
      obtain ⟨p, q1, q2⟩ := l2 k cs[k] (List.getElem?_eq_getElem hkl)
      rw [hk] at q1
      obtain rfl := Option.some.inj q1
      have hv : vs[k]? = some (vs.getD k undef) := by simp [Array.getD, hkv]
      refine ⟨?_, (toPV_rel (p6 k cs[k] _ (List.getElem?_eq_getElem hkl) hv).1 q2).mono hM⟩
      show (if b = b ∧ (none : Option Nat) = none ∧ k < vs.size then vs[k]? else _) = _
      rw [if_pos ⟨rfl, rfl, hkv⟩]; exact hv
    exact .ptr ps _ (fun k => vs.getD k undef) hone (fun k c hk => by rw [Addr.add_lit, Nat.zero_add]; exact (key k c hk).1) (fun k c hk => (key k c hk).2)

/-- A tail that comes to be the call's own. -/
theorem SRel.attachTip (h : SRel F w0 M0 G s w) {hd : TH} (hsz : 0 < hd.sz) (hc : (hd.tail = none ∧ hd.room = 0) ∨ ∃ b o vs T, hd.tail = some ⟨b, o, none⟩ ∧ G.own b = .free ∧ b < w.heap.size ∧ (F b ∨ w0.heap.size ≤ b) ∧ w.heap[b]? = some (.cells vs T (0, 0)) ∧
      o + hd.room * hd.sz ≤ vs.size ∧ (∀ a v, G.M a = some v → a.block = b → a.off < o) ∧ ∀ i cs, s.bx[i]? = some (true, cs) → G.μ i ≠ some b)
    {xs : List PV} {v : Value} (hr : PRep G.M (.lst xs) v) (ht : Tail hd xs v) :
    ∃ G', SRel F w0 M0 G' { s with tp := s.tp ++ [(0, hd.sz)] } w ∧ Ext G s G' { s with tp := s.tp ++ [(0, hd.sz)] } ∧ ARel G' { s with tp := s.tp ++ [(0, hd.sz)] } (.bld s.tp.length 0 xs) v := by
  let own' : Nat → Own := fun b => match hd.tail with | some ad => if b = ad.block then .tip s.tp.length else G.own b | none => G.own b
  have hv := TpAt.push s (0, hd.sz)
  have he := Ext.tpAt (G := G) hv (Mem.le_refl _) own' hd
  have hfree : ∀ ad, hd.tail = some ad → G.own ad.block = .free := by
    intro ad had
    rcases hc with ⟨e, _⟩ | ⟨b, o, vs, T, e, e2, _⟩
    · rw [e] at had; cases had
    · rw [e] at had; obtain rfl := Option.some.inj had; exact e2
  have hown : ∀ b, G.own b ≠ .free → own' b = G.own b := fun b hb => by
    simp only [own']
    split
    · rename_i ad had
      rw [if_neg]
      rintro rfl
      exact hb (hfree ad had)
    · rfl
  refine ⟨{ G with M := G.M, own := own', τ := fun j => if j = s.tp.length then hd else G.τ j }, ⟨h.os, h.tape, h.output, h.size, h.old, h.agree, h.base, h.lay, h.newM, ?_, ?_, ?_, ?_, ?_, h.rt, h.rv⟩, he, ?_⟩
  · intro b hb
    by_cases hbf : G.own b = .free
    · simp only [own'] at hb
      rcases hc with ⟨e, _⟩ | ⟨b', o, vs, T, e, e2, e3, e4, _⟩
      · rw [e] at hb; exact absurd hbf hb
      · rw [e] at hb
        simp only at hb
        split at hb
        · rename_i hbb; subst hbb; exact ⟨e3, e4⟩
        · exact absurd hbf hb
    · exact h.own b hbf
  · intro a u e
    rcases h.ownM a u e with e1 | ⟨j, ad, hj, e1, e2⟩
    · rcases hc with ⟨e3, _⟩ | ⟨b', o, vs, T, e3, e4, e5, e6, e7, e8, e9, _⟩
      · left; simp only [own', e3]; exact e1
      · by_cases hab : a.block = b'
        · right
          exact ⟨s.tp.length, _, by simp, by simp only [own', e3]; rw [if_pos hab], by simp only [if_true]; exact e3, e9 a u e hab⟩
        · left; simp only [own', e3]; rw [if_neg hab]; exact e1
    · right
      exact ⟨j, ad, by simp; omega, (hown _ (by rw [e1]; simp)).trans e1, by simp only; rw [if_neg (by omega)]; exact e2⟩
  · intro j z cs b h1 h2
    obtain ⟨q1, q2, q3, us, q4, q5⟩ := h.bx j z cs b h1 h2
    refine ⟨?_, q2, q3, us, q4, q5.ext he⟩
    cases z with
    | false => exact (hown b (by rw [q1]; simp)).trans q1
    | true =>
      simp only [own']
      rcases hc with ⟨e3, _⟩ | ⟨b', o, vs, T, e3, e4, e5, e6, e7, e8, e9, e10⟩
      · rw [e3]; exact q1
      · rw [e3]
        simp only
        rw [if_neg]
        · exact q1
        · rintro rfl
          exact e10 j cs h1 h2
  · intro j ver' sz' ys h1
    obtain ⟨q0, q1, q2⟩ := h.vc j ver' sz' ys h1
    refine ⟨q0, q1, ?_⟩
    rcases q2 with q2 | ⟨b', o, us, T', k1, k2, k3⟩
    · exact .inl q2
    · exact .inr ⟨b', o, us, T', k1, (hown b' (by rw [k2]; simp)).trans k2, k3⟩
  · intro j e h1
    by_cases hji : j = s.tp.length
    · subst hji
      simp only at h1
      rw [hv.at_] at h1
      obtain rfl := Option.some.inj h1
      simp only [if_true]
      refine ⟨⟨by first | rfl | trivial, hsz⟩, ?_⟩
      rcases hc with hc | ⟨b', o, vs, T, e3, e4, e5, e6, e7, e8, e9, _⟩
      · exact .inl hc
      · exact .inr ⟨b', o, vs, T, e3, by simp only [own', e3, if_true], e7, e8⟩
    · simp only at h1
      rw [hv.other j hji] at h1
      obtain ⟨q0, q2⟩ := h.tp j e h1
      simp only [if_neg hji]
      refine ⟨q0, ?_⟩
      rcases q2 with q2 | ⟨b', o, us, T', k1, k2, k3⟩
      · exact .inl q2
      · exact .inr ⟨b', o, us, T', k1, (hown b' (by rw [k2]; simp)).trans k2, k3⟩
  · refine ⟨by simp, hr, fun cur h1 => ?_⟩
    simp only at h1
    rw [hv.at_] at h1
    obtain rfl := Option.some.inj h1
    exact ⟨Nat.le_refl _, fun _ => by simp only [if_true]; exact ht⟩

/-- A vector that comes to be the call's own. -/
theorem SRel.attachVec (h : SRel F w0 M0 G s w) {hd : VH} {xs : List PV} (hsz : 0 < hd.sz) (hs : ∀ x, x ∈ xs → x.cells.length = hd.sz ∧ ∀ y, y ∈ x.cells → y.one = true)
    (hc : (hd.A = none ∧ hd.cap = 0 ∧ xs = []) ∨ ∃ b o vs T, hd.A = some ⟨b, o, none⟩ ∧ G.own b = .free ∧ b < w.heap.size ∧ (F b ∨ w0.heap.size ≤ b) ∧ w.heap[b]? = some (.cells vs T (0, 0)) ∧
      o + hd.cap * hd.sz ≤ vs.size ∧ xs.length ≤ hd.cap ∧ (∀ j x k y, xs[j]? = some x → x.cells[k]? = some y → ∃ v, vs[o + (j * hd.sz + k)]? = some v ∧ PRep G.M y v) ∧
      (∀ a v, G.M a = some v → a.block ≠ b) ∧ ∀ i cs, s.bx[i]? = some (true, cs) → G.μ i ≠ some b) :
    ∃ G', SRel F w0 M0 G' { s with vc := s.vc ++ [some (0, hd.sz, xs)] } w ∧ Ext G s G' { s with vc := s.vc ++ [some (0, hd.sz, xs)] } ∧ ARel G' { s with vc := s.vc ++ [some (0, hd.sz, xs)] } (.vec s.vc.length 0) (.slice hd.A xs.length hd.cap) := by
  let own' : Nat → Own := fun b => match hd.A with | some ad => if b = ad.block then .vec s.vc.length else G.own b | none => G.own b
  have hv := VcAt.push s (0, hd.sz, xs)
  have he := Ext.vcAt (G := G) hv own' hd
  have hfree : ∀ ad, hd.A = some ad → G.own ad.block = .free := by
    intro ad had
    rcases hc with ⟨e, _⟩ | ⟨b, o, vs, T, e, e2, _⟩
    · rw [e] at had; cases had
    · rw [e] at had; obtain rfl := Option.some.inj had; exact e2
  have hown : ∀ b, G.own b ≠ .free → own' b = G.own b := fun b hb => by
    simp only [own']
    split
    · rename_i ad had
      rw [if_neg]
      rintro rfl
      exact hb (hfree ad had)
    · rfl
  refine ⟨{ G with own := own', ν := fun j => if j = s.vc.length then hd else G.ν j }, ⟨h.os, h.tape, h.output, h.size, h.old, h.agree, h.base, h.lay, h.newM, ?_, ?_, ?_, ?_, ?_, h.rt, h.rvAt hv hd _ fun j hj => if_neg hj⟩, he, ?_⟩
  · intro b hb
    by_cases hbf : G.own b = .free
    · simp only [own'] at hb
      rcases hc with ⟨e, _⟩ | ⟨b', o, vs, T, e, e2, e3, e4, _⟩
      · rw [e] at hb; exact absurd hbf hb
      · rw [e] at hb
        simp only at hb
        split at hb
        · rename_i hbb; subst hbb; exact ⟨e3, e4⟩
        · exact absurd hbf hb
    · exact h.own b hbf
  · intro a u e
    rcases h.ownM a u e with e1 | ⟨j, ad, hj, e1, e2⟩
    · left
      rcases hc with ⟨e3, _⟩ | ⟨b', o, vs, T, e3, e4, e5, e6, e7, e8, e9, e10, e11, _⟩
      · simp only [own', e3]; exact e1
      · simp only [own', e3]; rw [if_neg (e11 a u e)]; exact e1
    · right
      exact ⟨j, ad, hj, (hown _ (by rw [e1]; simp)).trans e1, e2⟩
  · intro j z cs b h1 h2
    obtain ⟨q1, q2, q3, us, q4, q5⟩ := h.bx j z cs b h1 h2
    refine ⟨?_, q2, q3, us, q4, q5.ext he⟩
    cases z with
    | false => exact (hown b (by rw [q1]; simp)).trans q1
    | true =>
      simp only [own']
      rcases hc with ⟨e3, _⟩ | ⟨b', o, vs, T, e3, e4, e5, e6, e7, e8, e9, e10, e11, e12⟩
      · rw [e3]; exact q1
      · rw [e3]
        simp only
        rw [if_neg]
        · exact q1
        · rintro rfl
          exact e12 j cs h1 h2
  · intro j ver' sz' ys h1
    by_cases hji : j = s.vc.length
    · subst hji
      simp only at h1
      rw [hv.at_] at h1
      simp only [Option.some.injEq, Prod.mk.injEq] at h1
      obtain ⟨rfl, rfl, rfl⟩ := h1
      simp only [if_true]
      refine ⟨⟨by first | rfl | trivial, hsz⟩, hs, ?_⟩
      rcases hc with hc | ⟨b', o, vs, T, e3, e4, e5, e6, e7, e8, e9, e10, e11, _⟩
      · exact .inl hc
      · exact .inr ⟨b', o, vs, T, e3, by simp only [own', e3, if_true], e7, e8, e9, e10⟩
    · simp only at h1
      rw [hv.other j hji] at h1
      obtain ⟨q0, q1, q2⟩ := h.vc j ver' sz' ys h1
      simp only [if_neg hji]
      refine ⟨q0, q1, ?_⟩
      rcases q2 with q2 | ⟨b', o, us, T', k1, k2, k3⟩
      · exact .inl q2
      · exact .inr ⟨b', o, us, T', k1, (hown b' (by rw [k2]; simp)).trans k2, k3⟩
  · intro j e h1
    obtain ⟨q0, q2⟩ := h.tp j e h1
    refine ⟨q0, ?_⟩
    rcases q2 with q2 | ⟨b', o, us, T', k1, k2, k3⟩
    · exact .inl q2
    · exact .inr ⟨b', o, us, T', k1, (hown b' (by rw [k2]; simp)).trans k2, k3⟩
  · refine ⟨by simp, ⟨_, _, _, rfl⟩, fun cur ys h1 => ?_⟩
    simp only at h1
    rw [hv.at_] at h1
    simp only [Option.some.injEq, Prod.mk.injEq] at h1
    obtain ⟨rfl, rfl⟩ := h1
    exact ⟨Nat.le_refl _, fun _ => by simp⟩
end
end Go.AL

/- Operations on the store: loads, stores, new boxes. -/
set_option linter.unusedVariables false
set_option linter.unusedSimpArgs false
namespace Go.AL
open Go.RowKit

/-- The operation, at a state whose operands are related and whose store is s, leaves this value and this store. -/
def Sound2 (P : Program) (op : Op) (ty : TypeId) (av : Av) (s : St) (v : AV) (s' : St) : Prop :=
  ∀ (F : Fr) (w0 : World) (M0 : Mem) (G : Gh) (a : Act) (w : World) (o : Oper), SRel F w0 M0 G s w → Avs av G s a → o.op = op → o.type = ty →
    OpTo P o a w fun u w' => ∃ G', SRel F w0 M0 G' s' w' ∧ Ext G s G' s' ∧ ARel G' s' v u

theorem Sound1.two {P : Program} {op : Op} {ty : TypeId} {av : Av} {v : AV} (h : Sound1 P op ty av v) (s : St) : Sound2 P op ty av s v s :=
  fun F w0 M0 G a w o hS hA ho ht => h F w0 M0 G s a w o hS hA ho ht

/-- The same, where nothing is changed at all. -/
def Sound0 (P : Program) (op : Op) (ty : TypeId) (av : Av) (s : St) (v : AV) : Prop :=
  ∀ (F : Fr) (w0 : World) (M0 : Mem) (G : Gh) (a : Act) (w : World) (o : Oper), SRel F w0 M0 G s w → Avs av G s a → o.op = op → o.type = ty →
    ∃ z, (execOp a.eval o).run P w = .ok (.value z) w ∧ ARel G s v z
theorem Sound0.two {P : Program} {op : Op} {ty : TypeId} {av : Av} {s : St} {v : AV} (h : Sound0 P op ty av s v) : Sound2 P op ty av s v s := by
  intro F w0 M0 G a w o hS hA ho ht
  obtain ⟨z, h1, h2⟩ := h F w0 M0 G a w o hS hA ho ht
  exact OpTo.value h1 ⟨G, hS, Ext.refl _ _, h2⟩

theorem setAt_get {α : Type} (us : List α) : ∀ (cs : List α) (off k : Nat), off + us.length ≤ cs.length → (setAt cs off us)[k]? = if off ≤ k ∧ k < off + us.length then us[k - off]? else cs[k]? := by
  induction us with
  | nil => intro cs off k h; simp [setAt]; intro h1 h2; omega
  | cons u us ih =>
    intro cs off k h
    simp only [setAt]
    rw [ih (cs.set off u) (off + 1) k (by simpa using (by simpa using h : off + (us.length + 1) ≤ cs.length) |> fun h => by omega)]
    simp only [List.length_cons] at h ⊢
    by_cases h1 : off + 1 ≤ k ∧ k < off + 1 + us.length
    · rw [if_pos h1, if_pos (by omega), show k - off = (k - (off + 1)) + 1 by omega, List.getElem?_cons_succ]
    · rw [if_neg h1]
      by_cases h2 : k = off
      · subst h2
        rw [if_pos (by omega), List.getElem?_set_self (by omega)]
        simp
      · rw [if_neg (by omega), List.getElem?_set_ne (by omega)]

section
variable {P : Program} {ty : TypeId} {av : Av} {s : St}

theorem cellsAV_rel {G : Gh} {b : AV} {u : Value} {vs : List AV} (h : ARel G s b u) (hc : b.cellsAV = some vs) : u.cells.toList.length = vs.length ∧ ∀ (k : Nat) c x, vs[k]? = some c → u.cells.toList[k]? = some x → ARel G s c x := by
  have single : ∀ {c : AV}, ARel G s c u → u.oneCell' = true → b.cellsAV = some [c] → u.cells.toList.length = vs.length ∧ ∀ (k : Nat) c x, vs[k]? = some c → u.cells.toList[k]? = some x → ARel G s c x := by
    intro c hr ho e
    rw [hc] at e
    obtain rfl := Option.some.inj e
    have hu : u.cells.toList = [u] := by cases u <;> simp [Value.cells, Value.oneCell'] at ho ⊢
    rw [hu]
    refine ⟨rfl, fun k c' x h1 h2 => ?_⟩
    cases k with
    | zero => simp at h1 h2; subst h1; subst h2; exact hr
    | succ k => simp at h1
  cases b with
  | pv p =>
    have hp : ∀ cs, p ≠ .tup cs := by rintro cs rfl; cases hc
    obtain ⟨g1, g2, g3⟩ := PRep.cells h hp
    have hvs : vs = p.cells.map .pv := by
      cases p <;> simp [AV.cellsAV] at hc <;> subst hc <;> rfl
    subst hvs
    refine ⟨by simpa using g1, fun k c x h1 h2 => ?_⟩
    rw [List.getElem?_map] at h1
    cases hk : p.cells[k]? with
    | none => rw [hk] at h1; cases h1
    | some q => rw [hk] at h1; obtain rfl := Option.some.inj h1; exact g3 k q x hk h2
  | box i off => exact single h (ARel.oneCell h rfl) rfl
  | vec i ver => exact single h (ARel.oneCell h rfl) rfl
  | elt i ver j k => exact single h (ARel.oneCell h rfl) rfl
  | win i ver lo hi => exact single h (by obtain ⟨_, ⟨A, n, c, rfl⟩, _⟩ := h; rfl) rfl
  | tupV i ver ps => cases hc
  | bld i e xs => exact single h (ARel.oneCell h rfl) rfl
  | agg cs =>
    obtain rfl := Option.some.inj hc
    obtain ⟨us, rfl, hl, hr⟩ := h
    exact ⟨by simpa [Value.cells] using hl, fun k c x h1 h2 => .of1 (hr k c x h1 (by simpa [Value.cells] using h2)).1⟩
  | undef => cases hc
  | any => cases hc
  | mp i => exact single h (ARel.oneCell h rfl) rfl
  | ment es => exact h.elim

theorem cellsAV_one {G : Gh} {b : AV} {u : Value} {vs : List AV} (h : ARel G s b u) (hc : b.cellsAV = some vs) (ha : vs.all AV.cell = true) : ∀ x, x ∈ u.cells.toList → x.oneCell' = true := by
  obtain ⟨g1, g2⟩ := cellsAV_rel h hc
  intro x hx
  obtain ⟨k, hk, rfl⟩ := List.mem_iff_getElem.1 hx
  have hk2 : k < vs.length := by omega
  exact (g2 k vs[k] _ (List.getElem?_eq_getElem hk2) (List.getElem?_eq_getElem hk)).oneCell (List.all_eq_true.1 ha _ (List.getElem_mem hk2))

/-! ### New boxes -/
theorem s_box {t : TypeId} {y : Operand} {b : AV} {cs : List AV} (hy : av y = some b) (hc : b.cellsAV = some cs) (ha : cs.all AV.cell = true) :
    Sound2 P (.box t y) ty av s (.box s.bx.length 0) { s with bx := s.bx ++ [(false, cs)] } := by
  intro F w0 M0 G a w o hS hA ho _
  have hr := hA y b hy
  obtain ⟨g1, g2⟩ := cellsAV_rel hr hc
  have g3 := cellsAV_one hr hc ha
  obtain ⟨G', k1, k2, k3⟩ := hS.newBox t (cs := cs) (vs := (a.eval y).cells) (by simpa using g1) (fun k c v h1 h2 => ⟨g2 k c v h1 (by simpa using h2), g3 v (by
    have := List.mem_of_getElem? (l := (a.eval y).cells.toList) (i := k) (a := v) (by simpa using h2); exact this)⟩)
  exact OpTo.value (u := .pointer (some ⟨w.heap.size, 0, none⟩)) (w' := w.alloc (.cells (a.eval y).cells t)) (by simp [execOp, ho, Instr.box, newVar, newRow]) ⟨G', k1, k2, k3⟩

theorem run_alloc (hT : TOk P) {t : TypeId} {ps : List PV} (h : zeroCells P t = some ps) (w : World) {a : Act} {o : Oper} (ho : o.op = .alloc t) :
    ∃ z : Value, (execOp a.eval o).run P w = .ok (.value (.pointer (some ⟨w.heap.size, 0, none⟩))) (w.alloc (.cells z.cells t)) ∧ z.cells.size = ps.length ∧
      ∀ (M : Mem) (i : Nat) p v, ps[i]? = some p → z.cells[i]? = some v → PRep M p v ∧ v.oneCell' = true := by
  obtain ⟨i, z, h1, h2, h3, h4, h5⟩ := run_zero hT h w
  refine ⟨z, by simp [execOp, ho, Instr.alloc, h3, newVar, newRow], ?_, fun M k p v e1 e2 => ?_⟩
  · have := (CRel.of_cells (M := fun _ => none) h4).1; simpa using this
  · have := (ofCells_rep (M := M) h4).2 k p v e1 (by simpa using e2)
    exact ⟨this.1, this.2.2⟩

theorem s_alloc (hT : TOk P) {t : TypeId} {ps : List PV} (h : zeroCells P t = some ps) : Sound2 P (.alloc t) ty av s (.box s.bx.length 0) { s with bx := s.bx ++ [(false, ps.map .pv)] } := by
  intro F w0 M0 G a w o hS hA ho _
  obtain ⟨z, h1, h2, h3⟩ := run_alloc hT h w (a := a) ho
  obtain ⟨G', k1, k2, k3⟩ := hS.newBox t (cs := ps.map .pv) (vs := z.cells) (by simpa using h2) (fun k c v e1 e2 => by
    rw [List.getElem?_map] at e1
    cases hk : ps[k]? with
    | none => rw [hk] at e1; cases e1
    | some q => rw [hk] at e1; obtain rfl := Option.some.inj e1; exact h3 G.M k q v hk e2)
  exact OpTo.value h1 ⟨G', k1, k2, k3⟩

/-! ### Loads -/
theorem run_load_agg (hT : TOk P) {t : TypeId} {z : PV} (hz : zeroPV P t = some z) {n : Nat} (hn : (shOf P t).isAgg = some n) {a : Act} {o : Oper} {y : Operand} (ho : o.op = .load t y) {ad : Addr} (hy : a.eval y = .pointer (some ad)) {w : World} {cs : List Value} (hl : cs.length = n)
    (h : ∀ j v, cs[j]? = some v → w.cell? (ad.add j) = some v) : (execOp a.eval o).run P w = .ok (.value (.agg cs.toArray)) w := by
  obtain ⟨l, hl', rfl⟩ := isAgg_some hn
  obtain ⟨i, d, hi, hsz, hu, hd, _⟩ := shOf_agg hT hl'
  have := run_loadCells_list (P := P) w ad cs h
  rw [hl] at this
  simp [execOp, ho, Instr.loadAt, hy, Instr.sureAddr, loadVar, run_isAgg_true hu hd, run_sizeOf' hi, hsz, this]

theorem run_load_one (hT : TOk P) {t : TypeId} {z : PV} (hz : zeroPV P t = some z) (hn : (shOf P t).isAgg = none) {a : Act} {o : Oper} {y : Operand} (ho : o.op = .load t y) {ad : Addr} (hy : a.eval y = .pointer (some ad)) {w : World} {v : Value}
    (h : w.cell? ad = some v) : (execOp a.eval o).run P w = .ok (.value v) w := by
  obtain ⟨i, hi, zv, hzv⟩ := zero_size hT hz
  obtain ⟨i, d, hi, hsz, hu, hd1, hd2, _⟩ := shOf_one hT (isAgg_none hn) ⟨i, zv, hi, hzv⟩
  simp [execOp, ho, Instr.loadAt, hy, Instr.sureAddr, loadVar, run_isAgg_false hu hd1 hd2, h]

theorem s_load_ptr (hT : TOk P) {t : TypeId} {z : PV} (hz : zeroPV P t = some z) {y : Operand} {cs : List PV} (hy : av y = some (.pv (.ptr cs))) :
    (∀ n, (shOf P t).isAgg = some n → n ≤ cs.length → ∀ s, Sound0 P (.load t y) ty av s (.pv (.agg (cs.take n)))) ∧ (∀ c, (shOf P t).isAgg = none → cs[0]? = some c → ∀ s, Sound0 P (.load t y) ty av s (.pv c)) := by
  refine ⟨fun n hn hle s F w0 M0 G a w o hS hA ho _ => ?_, fun c hn hc s F w0 M0 G a w o hS hA ho _ => ?_⟩
  · have hM := hS.agree
    obtain ⟨ad, vs, e, g1, g2, g3⟩ := rep_ptr (hA y _ hy)
    refine ⟨.agg ((List.range n).map vs).toArray, run_load_agg hT hz hn ho e (by simp) (fun j v hj => ?_), .agg _ _ (by simp; omega) (fun x hx => g1 x (List.mem_of_mem_take hx)) fun i c v h1 h2 => ?_⟩
    · have hjn : j < n := by have := (List.getElem?_eq_some_iff.1 hj).1; simpa using this
      simp [hjn] at hj
      subst hj
      exact hM _ _ (g2 j cs[j] (List.getElem?_eq_getElem (by omega)))
    · have hin : i < n := by have := (List.getElem?_eq_some_iff.1 h2).1; simpa using this
      simp [hin] at h2
      subst h2
      exact g3 i c (by rw [List.getElem?_take_of_lt hin] at h1; exact h1)
  · have hM := hS.agree
    obtain ⟨ad, vs, e, g1, g2, g3⟩ := rep_ptr (hA y _ hy)
    have hc0 := hM _ _ (g2 0 c hc)
    rw [Addr.add_zero'] at hc0
    exact ⟨vs 0, run_load_one hT hz hn ho e hc0, g3 0 c hc⟩

theorem isCells_of {cs : List AV} {k : Nat} {c : AV} (h : cs[k]? = some c) (hc : c.cell = true) : isCells cs = true := by
  unfold isCells
  split
  · cases k with
    | zero => simp at h; subst h; cases hc
    | succ k => simp at h
  · rfl

theorem s_load_box (hT : TOk P) {t : TypeId} {z : PV} (hz : zeroPV P t = some z) {y : Operand} {i off : Nat} {zf : Bool} {cs : List AV} (hy : av y = some (.box i off)) (hi : s.bx[i]? = some (zf, cs)) :
    (∀ n ps, (shOf P t).isAgg = some n → off + n ≤ cs.length → isCells cs = true → toPVs ((cs.drop off).take n) = some ps → Sound0 P (.load t y) ty av s (.pv (.agg ps))) ∧ (∀ c, (shOf P t).isAgg = none → cs[off]? = some c → c.cell = true → Sound0 P (.load t y) ty av s c) := by
  refine ⟨fun n ps hn hle hm hps => ?_, fun c hn hc hcc => ?_⟩
  · intro F w0 M0 G a w o hS hA ho _
    obtain ⟨_, b, hb, e⟩ := hA y _ hy
    obtain ⟨p1, p2, p3, ob, p4, p0⟩ := hS.bx i zf cs b hi hb
    obtain ⟨vs, T, rfl, p5, p6⟩ := p0.cells hm
    have hcell : ∀ j v, ((vs.toList.drop off).take n)[j]? = some v → w.cell? ((⟨b, off, none⟩ : Addr).add j) = some v ∧ j < n ∧ vs[off + j]? = some v := by
      intro j v hj
      have hjn : j < n := by have := (List.getElem?_eq_some_iff.1 hj).1; simp at this; omega
      rw [List.getElem?_take_of_lt hjn, List.getElem?_drop] at hj
      refine ⟨?_, hjn, by simpa using hj⟩
      rw [Addr.add_lit]
      simp only [World.cell?, p4]
      simpa using hj
    refine ⟨_, run_load_agg hT hz hn ho e (by simp; omega) fun j v hj => (hcell j v hj).1, ?_⟩
    obtain ⟨q1, q2⟩ := toPVs_get hps
    refine .agg _ _ (by rw [q1]; simp; omega) (fun x hx => ?_) fun k c v h1 h2 => ?_
    · obtain ⟨k, hk, rfl⟩ := List.mem_iff_getElem.1 hx
      have hk2 : k < ((cs.drop off).take n).length := by rw [← q1]; exact hk
      obtain ⟨p, e1, e2⟩ := q2 k _ (List.getElem?_eq_getElem hk2)
      rw [List.getElem?_eq_getElem hk] at e1
      obtain rfl := Option.some.inj e1
      have hkn : k < n := by simp at hk2; omega
      have hcs : cs[off + k]? = some ((cs.drop off).take n)[k] := by
        have := List.getElem?_eq_getElem hk2
        rw [List.getElem?_take_of_lt hkn, List.getElem?_drop] at this
        exact this
      have hv : off + k < vs.size := by rw [p5]; exact (List.getElem?_eq_some_iff.1 hcs).1
      have := p6 (off + k) _ vs[off + k] hcs (Array.getElem?_eq_getElem hv)
      have hr := toPV_rel this.1 e2
      revert hr e2
      generalize ps[k] = p
      intro e2 hr
      have h1 := this.2
      generalize vs[off + k] = u at hr h1
      cases hr <;> first | rfl | (simp [Value.oneCell'] at h1)
    · obtain ⟨g1, g2, g3⟩ := hcell k v h2
      have hk2 : k < ((cs.drop off).take n).length := by rw [← q1]; exact (List.getElem?_eq_some_iff.1 h1).1
      obtain ⟨p, e1, e2⟩ := q2 k _ (List.getElem?_eq_getElem hk2)
      rw [h1] at e1
      obtain rfl := Option.some.inj e1
      have hcs : cs[off + k]? = some ((cs.drop off).take n)[k] := by
        have := List.getElem?_eq_getElem hk2
        rw [List.getElem?_take_of_lt g2, List.getElem?_drop] at this
        exact this
      exact toPV_rel (p6 (off + k) _ v hcs g3).1 e2
  · intro F w0 M0 G a w o hS hA ho _
    obtain ⟨_, b, hb, e⟩ := hA y _ hy
    obtain ⟨p1, p2, p3, ob, p4, p0⟩ := hS.bx i zf cs b hi hb
    obtain ⟨vs, T, rfl, p5, p6⟩ := p0.cells (isCells_of hc hcc)
    have hlt : off < vs.size := by rw [p5]; exact (List.getElem?_eq_some_iff.1 hc).1
    have hv : vs[off]? = some vs[off] := Array.getElem?_eq_getElem hlt
    refine ⟨_, run_load_one hT hz hn ho e (v := vs[off]) ?_, (p6 off c _ hc hv).1⟩
    simp only [World.cell?, p4]
    exact hv

theorem cl_get {x : PV} {o : Nat} (h : o < x.cells.length) : x.cells[o]? = some (x.cl o) := by
  cases x <;> simp [PV.cells, PV.cl] at h ⊢ <;> first | (subst h; rfl) | skip
  simp [h]

/-- Where an element of a vector lies. -/
theorem elt_at {F : Fr} {w0 : World} {M0 : Mem} {G : Gh} {w : World} (hS : SRel F w0 M0 G s w) {i ver j k sz : Nat} {xs : List PV} {x : PV} {u : Value} (hi : s.vc[i]? = some (some (ver, sz, xs))) (hr : ARel G s (.elt i ver j k) u) (hx : xs[j]? = some x) :
    ∃ b o cap vs T, u = .pointer (some ⟨b, o + (j * sz + k), none⟩) ∧ (G.ν i).A = some ⟨b, o, none⟩ ∧ (G.ν i).sz = sz ∧ (G.ν i).cap = cap ∧ G.own b = .vec i ∧ w.heap[b]? = some (.cells vs T (0, 0)) ∧ o + cap * sz ≤ vs.size ∧ xs.length ≤ cap ∧ 0 < sz ∧
      (∀ x, x ∈ xs → x.cells.length = sz ∧ ∀ y, y ∈ x.cells → y.one = true) ∧ ∀ j x k y, xs[j]? = some x → x.cells[k]? = some y → ∃ v, vs[o + (j * sz + k)]? = some v ∧ PRep G.M y v := by
  obtain ⟨_, _, h3⟩ := hr
  obtain ⟨ad, h4, h5⟩ := (h3 _ _ hi).2 rfl
  obtain ⟨⟨r0, r0'⟩, r1, r2⟩ := hS.vc i ver sz xs hi
  rcases r2 with ⟨g, _⟩ | ⟨b, o, vs, T, g1, g2, g3, g4, g5, g6⟩
  · rw [h4] at g; cases g
  · rw [h4] at g1
    obtain rfl := Option.some.inj g1
    subst r0
    exact ⟨b, o, _, vs, T, by rw [h5, Addr.add_lit], h4, rfl, rfl, g2, g3, g4, g5, r0', r1, g6⟩

theorem s_load_elt (hT : TOk P) {t : TypeId} {z : PV} (hz : zeroPV P t = some z) {y : Operand} {i ver j k sz : Nat} {xs : List PV} {x : PV} (hy : av y = some (.elt i ver j k)) (hi : s.vc[i]? = some (some (ver, sz, xs))) (hx : xs[j]? = some x) :
    (∀ n, (shOf P t).isAgg = some n → k = 0 → (shOf P t).fits x = true → Sound0 P (.load t y) ty av s (.pv x)) ∧ ((shOf P t).isAgg = none → k < x.cells.length → Sound0 P (.load t y) ty av s (.pv (x.cl k))) := by
  refine ⟨fun n hn hk hf => ?_, fun hn hk => ?_⟩
  · intro F w0 M0 G a w o hS hA ho _
    subst hk
    obtain ⟨b, off, cap, vs, T, e, _, _, _, _, q1, q2, q3, q4, q5, q6⟩ := elt_at hS hi (hA y _ hy) hx
    have hfit := cells_of_fits hT hf (by obtain ⟨i, hi, zv, hzv⟩ := zero_size hT hz; exact ⟨i, zv, hi, hzv⟩)
    obtain ⟨l, hl, rfl⟩ := isAgg_some hn
    obtain ⟨cs, rfl⟩ : ∃ cs, x = .agg cs := by rw [hl] at hf; cases x <;> simp [Sh.fits] at hf; exact ⟨_, rfl⟩
    have hlen : cs.length = l.length := by rw [hl] at hf; exact fitsL_len (by simpa [Sh.fits] using hf)
    let us := cs.zipIdx.map fun c => vs.getD (off + (j * sz + c.2)) undef
    have hg : ∀ k c, cs[k]? = some c → vs[off + (j * sz + k)]? = some (vs.getD (off + (j * sz + k)) undef) ∧ PRep G.M c (vs.getD (off + (j * sz + k)) undef) := by
      intro k c hk
      obtain ⟨v, e1, e2⟩ := q6 j _ k c hx hk
      have : vs.getD (off + (j * sz + k)) undef = v := by
        have hlt := (Array.getElem?_eq_some_iff.1 e1).1
        simp [Array.getD, hlt]; simpa [hlt] using e1
      rw [this]; exact ⟨e1, e2⟩
    refine ⟨_, run_load_agg hT hz hn ho e (cs := us) (by simp [us, hlen]) fun k v hk => ?_, .agg cs us (by simp [us]) (fun y hy => (q5 _ (List.mem_of_getElem? hx)).2 y (by simpa [PV.cells] using hy)) fun k c v h1 h2 => ?_⟩
    · rw [Addr.add_lit]
      simp only [World.cell?, q1]
      simp only [us, List.getElem?_map, List.getElem?_zipIdx] at hk
      cases hc : cs[k]? with
      | none => rw [hc] at hk; cases hk
      | some c =>
        rw [hc] at hk
        simp at hk
        subst hk
        have := (hg k c hc).1
        rw [show off + (j * sz + 0) + k = off + (j * sz + k) by omega]
        simpa using this
    · simp only [us, List.getElem?_map, List.getElem?_zipIdx, h1] at h2
      simp at h2
      subst h2
      simpa using (hg k c h1).2
  · intro F w0 M0 G a w o hS hA ho _
    obtain ⟨b, off, cap, vs, T, e, _, _, _, _, q1, q2, q3, q4, q5, q6⟩ := elt_at hS hi (hA y _ hy) hx
    obtain ⟨v, e1, e2⟩ := q6 j x k _ hx (cl_get hk)
    refine ⟨_, run_load_one hT hz hn ho e (v := v) ?_, e2⟩
    simp only [World.cell?, q1]
    exact e1
end
end Go.AL

/- Operations on the store: writes, new rows, vectors. -/
set_option linter.unusedVariables false
set_option linter.unusedSimpArgs false
namespace Go.AL
open Go.RowKit

section
variable {P : Program} {ty : TypeId} {av : Av} {s : St}

theorem splice_get {vs : Array Value} {o : Nat} {us : List Value} (h : o + us.length ≤ vs.size) (k : Nat) : (splice vs o us)[k]? = if o ≤ k ∧ k < o + us.length then us[k - o]? else vs[k]? := by
  split
  · rename_i hk
    have := splice_new h (k := k - o) (by omega)
    rwa [show o + (k - o) = k by omega] at this
  · exact splice_old h (by omega)

theorem run_storeAt' {t : TypeId} {i : TypeInfo} (hi : P.types[t]? = some i) {b off : Nat} {vs : Array Value} {T : TypeId} {w : World} (hp : w.heap[b]? = some (.cells vs T (0, 0))) {u : Value} (hsz : u.cells.toList.length = i.size) (hfit : off + u.cells.toList.length ≤ vs.size)
    (h1 : ∀ x, x ∈ u.cells.toList → x.oneCell' = true) : (Instr.storeAt t (.pointer (some ⟨b, off, none⟩)) u).run P w = .ok () (w.setRow b (splice vs off u.cells.toList)) := by
  have := run_storeCells_at (P := P) b off T u.cells.toList 0 vs w hp (by simpa using hfit) h1
  simp only [Nat.add_zero] at this
  have hs : u.cells.size = i.size := by simpa using hsz
  simp [Instr.storeAt, Instr.sureAddr, storeVar, run_sizeOf' hi, hs, this, splice]

theorem sizeT_of {t : TypeId} {i : TypeInfo} (h : P.types[t]? = some i) : sizeT P t = i.size := by simp [sizeT, h]

theorem s_store_box (hT : TOk P) {t : TypeId} {z : PV} (hz : zeroPV P t = some z) {y x : Operand} {i off : Nat} {cs vs : List AV} {b : AV} (hy : av y = some (.box i off)) (hx : av x = some b) (hi : s.bx[i]? = some (false, cs)) (hc : b.cellsAV = some vs)
    (hl : vs.length = sizeT P t) (hfit : off + vs.length ≤ cs.length) (ha : vs.all AV.cell = true) (hm : isCells cs = true) : Sound2 P (.store t y x) ty av s .undef { s with bx := s.bx.set i (false, setAt cs off vs) } := by
  intro F w0 M0 G a w o hS hA ho _
  obtain ⟨_, b', hb, e⟩ := hA y _ hy
  have hr := hA x _ hx
  obtain ⟨g1, g2⟩ := cellsAV_rel hr hc
  have g3 := cellsAV_one hr hc ha
  obtain ⟨j, hj, zv, hzv⟩ := zero_size hT hz
  rw [sizeT_of hj] at hl
  obtain ⟨p1, p2, p3, ob, p4, p0⟩ := hS.bx i false cs b' hi hb
  obtain ⟨us, T, rfl, p5, p6⟩ := p0.cells hm
  have hf : off + (a.eval x).cells.toList.length ≤ us.size := by rw [g1, p5]; exact hfit
  have hrun := run_storeAt' hj (P := P) p4 (u := a.eval x) (off := off) (by rw [g1]; exact hl) hf g3
  obtain ⟨k1, k2⟩ := hS.updBox (cs' := setAt cs off vs) (vs' := splice us off (a.eval x).cells.toList) hi hm hb (by rw [size_splice hf, length_setAt]; exact p5) (fun k c v e1 e2 => by
    rw [setAt_get vs cs off k hfit] at e1
    rw [splice_get hf, g1] at e2
    split at e1
    · rename_i hk
      rw [if_pos hk] at e2
      exact ⟨g2 _ c v e1 e2, g3 v (List.mem_of_getElem? e2)⟩
    · rename_i hk
      rw [if_neg hk] at e2
      exact p6 k c v e1 e2)
  exact OpTo.skip (by simp [execOp, ho, e, hrun]) ⟨G, k1, k2, rfl⟩

theorem setc_cells {x p : PV} {k : Nat} (h : k < x.cells.length) (hp : p.one = true) : (x.setc k p).cells = x.cells.set k p := by
  have hpc : p.cells = [p] := by cases p <;> simp [PV.one] at hp <;> rfl
  cases x <;> simp [PV.cells, PV.setc] at h ⊢ <;> first | (subst h; simpa [PV.cells] using hpc) | skip

theorem s_store_elt (hT : TOk P) {t : TypeId} {z : PV} (hz : zeroPV P t = some z) {y x : Operand} {i ver j k sz : Nat} {xs : List PV} {e p e' : PV} (hy : av y = some (.elt i ver j k)) (hx : av x = some (.pv p)) (hi : s.vc[i]? = some (some (ver, sz, xs))) (he : xs[j]? = some e)
    (hn : p.cells.length = sizeT P t) (hnt : ∀ cs, p ≠ .tup cs) (hk : e.cells.length = sz → k + p.cells.length ≤ sz) (hl : e.cells.length = sz → e'.cells.length = sz) (h1 : ∀ q, q < k ∨ k + p.cells.length ≤ q → e'.cells[q]? = e.cells[q]?) (h2 : ∀ q, q < p.cells.length → e'.cells[k + q]? = p.cells[q]?) :
    Sound2 P (.store t y x) ty av s .undef { s with vc := s.vc.set i (some (ver, sz, xs.set j e')) } := by
  intro F w0 M0 G a w o hS hA ho _
  obtain ⟨b, off, cap, vs, T, e1, q8, q9, q10, q7, q1, q2, q3, q4, q5, q6⟩ := elt_at hS hi (hA y _ hy) he
  have hj : j < xs.length := (List.getElem?_eq_some_iff.1 he).1
  have hes := (q5 e (List.mem_of_getElem? he)).1
  replace hk := hk hes
  replace hl := hl hes
  obtain ⟨g1, g2, g3⟩ := PRep.cells (hA x _ hx) hnt
  obtain ⟨ti, hti, zv, hzv⟩ := zero_size hT hz
  rw [sizeT_of hti] at hn
  have hj1 : j * sz + sz ≤ cap * sz := by
    have : (j + 1) * sz ≤ cap * sz := Nat.mul_le_mul_right _ (by omega)
    rw [Nat.succ_mul] at this; exact this
  have hf : off + (j * sz + k) + (a.eval x).cells.toList.length ≤ vs.size := by rw [g1]; omega
  have hone : ∀ u, u ∈ (a.eval x).cells.toList → u.oneCell' = true := fun u hu => by
    obtain ⟨q, hq, rfl⟩ := List.mem_iff_getElem.1 hu
    have hq2 : q < p.cells.length := by omega
    exact (g3 q p.cells[q] _ (List.getElem?_eq_getElem hq2) (List.getElem?_eq_getElem hq)).one (g2 _ (List.getElem_mem hq2))
  have hrun := run_storeAt' hti (P := P) q1 (u := a.eval x) (off := off + (j * sz + k)) (by rw [g1]; exact hn) hf hone
  obtain ⟨k1, k2⟩ := hS.updVec (xs' := xs.set j e') (vs' := splice vs (off + (j * sz + k)) (a.eval x).cells.toList) hi q8 q7 q1 (size_splice hf) (by simp) (fun x' hx' => by
      rcases List.mem_or_eq_of_mem_set hx' with hx' | rfl
      · exact q5 x' hx'
      · refine ⟨hl, fun y' hy' => ?_⟩
        obtain ⟨q, hq, rfl⟩ := List.mem_iff_getElem.1 hy'
        by_cases hin : k ≤ q ∧ q < k + p.cells.length
        · have := h2 (q - k) (by omega)
          rw [show k + (q - k) = q by omega, List.getElem?_eq_getElem hq] at this
          exact g2 _ (List.mem_of_getElem? this.symm)
        · have := h1 q (by omega)
          rw [List.getElem?_eq_getElem hq] at this
          exact (q5 e (List.mem_of_getElem? he)).2 _ (List.mem_of_getElem? this.symm))
    (fun j' x' k' y' h3 h4 => by
      rw [splice_get hf, g1]
      by_cases hjj : j = j'
      · subst hjj
        rw [List.getElem?_set_self hj] at h3
        obtain rfl := Option.some.inj h3
        by_cases hin : k ≤ k' ∧ k' < k + p.cells.length
        · rw [if_pos (by omega)]
          have h5 := h2 (k' - k) (by omega)
          rw [show k + (k' - k) = k' by omega, h4] at h5
          have hlt : k' - k < (a.eval x).cells.toList.length := by rw [g1]; omega
          refine ⟨(a.eval x).cells.toList[k' - k], ?_, g3 _ y' _ h5.symm (List.getElem?_eq_getElem hlt)⟩
          rw [show off + (j * sz + k') - (off + (j * sz + k)) = k' - k by omega]
          exact List.getElem?_eq_getElem hlt
        · rw [if_neg (by omega)]
          rw [h1 k' (by omega)] at h4
          exact q6 j e k' y' he h4
      · rw [List.getElem?_set_ne hjj] at h3
        have hk' : k' < sz := by rw [← (q5 x' (List.mem_of_getElem? h3)).1]; exact (List.getElem?_eq_some_iff.1 h4).1
        have hne : ¬ (off + (j * sz + k) ≤ off + (j' * sz + k') ∧ off + (j' * sz + k') < off + (j * sz + k) + p.cells.length) := by
          rcases Nat.lt_or_gt_of_ne hjj with hlt | hlt
          · have : (j + 1) * sz ≤ j' * sz := Nat.mul_le_mul_right _ hlt
            rw [Nat.succ_mul] at this
            omega
          · have : (j' + 1) * sz ≤ j * sz := Nat.mul_le_mul_right _ hlt
            rw [Nat.succ_mul] at this
            omega
        rw [if_neg hne]
        exact q6 j' x' k' y' h3 h4)
  exact OpTo.skip (by simp [execOp, ho, e1, hrun]) ⟨G, k1, k2, rfl⟩

theorem storeAV_sound (hT : TOk P) {ρ : Type} {t : TypeId} {y x : Operand} {b c : AV} (hy : av y = some b) (hx : av x = some c) {K : St → Option ρ} {r : ρ} (h : storeAV P t b c s K = some r) : ∃ s', K s' = some r ∧ Sound2 P (.store t y x) ty av s .undef s' := by
  unfold storeAV at h
  split at h
  · cases h
  rename_i z hz
  split at h
  · rename_i i off
    split at h
    · rename_i zf cs vs hi hc
      replace h := bif_some h; obtain ⟨h1, h⟩ := h
      simp only [Bool.and_eq_true, Bool.not_eq_true'] at h1
      obtain ⟨⟨⟨⟨rfl, h2⟩, h3⟩, h4⟩, h5⟩ := h1
      exact ⟨_, h, s_store_box hT hz hy hx hi hc (beq_eq h2) (Nat.le_of_ble_eq_true h3) h4 h5⟩
    · cases h
  · rename_i i ver j k
    split at h
    · rename_i cur sz xs p hi
      replace h := bif_some h; obtain ⟨h1, h⟩ := h
      obtain rfl := beq_eq h1
      replace h := bind_some h; obtain ⟨e, he, h⟩ := h
      obtain ⟨ti, hti, zv, hzv⟩ := zero_size hT hz
      split at h
      · rename_i n hn
        replace h := bif_some h; obtain ⟨h1, h⟩ := h
        simp only [Bool.and_eq_true] at h1
        obtain ⟨⟨h2, h3⟩, h4⟩ := h1
        obtain rfl := beq_eq h2
        obtain ⟨c1, _, c2⟩ := cells_of_fits hT h4 ⟨ti, zv, hti, hzv⟩
        obtain ⟨c3, _, _⟩ := cells_of_fits hT h3 ⟨ti, zv, hti, hzv⟩
        exact ⟨_, h, s_store_elt hT hz hy hx hi he c1 c2 (by omega) (by omega) (fun q hq => by
          rw [List.getElem?_eq_none (by omega), List.getElem?_eq_none (by omega)]) (fun q _ => by rw [Nat.zero_add])⟩
      · rename_i hn
        replace h := bif_some h; obtain ⟨h1, h⟩ := h
        simp only [Bool.and_eq_true] at h1
        obtain ⟨h2, h3⟩ := h1
        have hk := blt_lt h2
        have hpc : p.cells = [p] := by cases p <;> simp [PV.one] at h3 <;> rfl
        obtain ⟨i', d, hi', hsz, _⟩ := shOf_one hT (isAgg_none hn) ⟨ti, zv, hti, hzv⟩
        refine ⟨_, h, s_store_elt hT hz hy hx hi he (by rw [hpc, sizeT_of hi', hsz]; rfl) (by rintro cs rfl; cases h3) (fun _ => by rw [hpc]; simp; omega) (fun hes => by rw [setc_cells hk h3]; simpa using hes) (fun q hq => ?_) (fun q hq => ?_)⟩
        · rw [hpc] at hq
          rw [setc_cells hk h3, List.getElem?_set_ne (by simp at hq; omega)]
        · rw [hpc] at hq
          have : q = 0 := by simpa using hq
          subst this
          rw [setc_cells hk h3, hpc, Nat.add_zero, List.getElem?_set_self hk]; rfl
    · cases h
  · cases h

theorem loadAV_sound (hT : TOk P) {ρ : Type} {t : TypeId} {y : Operand} {b : AV} (hy : av y = some b) {K : AV → Option ρ} {r : ρ} (h : loadAV P t b s K = some r) : ∃ v, K v = some r ∧ Sound0 P (.load t y) ty av s v := by
  unfold loadAV at h
  split at h
  · cases h
  rename_i z hz
  split at h
  · rename_i cs
    obtain ⟨g1, g2⟩ := s_load_ptr (ty := ty) hT hz hy
    split at h
    · rename_i n hn
      replace h := bif_some h; obtain ⟨h1, h⟩ := h
      exact ⟨_, h, g1 n hn (Nat.le_of_ble_eq_true h1) s⟩
    · rename_i hn
      split at h
      · exact ⟨_, h, g2 _ hn rfl s⟩
      · cases h
  · rename_i i off
    split at h
    · rename_i zf cs hi
      obtain ⟨g1, g2⟩ := s_load_box (ty := ty) hT hz hy hi
      split at h
      · rename_i n hn
        replace h := bif_some h; obtain ⟨h1, h⟩ := h
        simp only [Bool.and_eq_true] at h1
        split at h
        · rename_i ps hps
          exact ⟨_, h, g1 n ps hn (Nat.le_of_ble_eq_true h1.1) h1.2 hps⟩
        · cases h
      · rename_i hn
        split at h
        · rename_i c hc
          replace h := bif_some h; obtain ⟨h1, h⟩ := h
          exact ⟨_, h, g2 c hn hc h1⟩
        · cases h
    · cases h
  · rename_i i ver j k
    split at h
    · rename_i cur sz xs hi
      replace h := bif_some h; obtain ⟨h1, h⟩ := h
      obtain rfl := beq_eq h1
      replace h := bind_some h; obtain ⟨e, he, h⟩ := h
      obtain ⟨g1, g2⟩ := s_load_elt (ty := ty) hT hz hy hi he
      split at h
      · rename_i n hn
        replace h := bif_some h; obtain ⟨h1, h⟩ := h
        simp only [Bool.and_eq_true] at h1
        rw [Sh.view_eq _ _ h1.2] at h
        exact ⟨_, h, g1 n hn (beq_eq h1.1) h1.2⟩
      · rename_i hn
        replace h := bif_some h; obtain ⟨h1, h⟩ := h
        simp only [Bool.and_eq_true] at h1
        rw [Sh.view_eq _ _ h1.2] at h
        exact ⟨_, h, g2 hn (blt_lt h1.1)⟩
    · cases h
  · cases h
end
end Go.AL

/- Operations on the store: new rows of the call's own, and appends. -/
set_option linter.unusedVariables false
set_option linter.unusedSimpArgs false
namespace Go.AL
open Go.RowKit

section
variable {P : Program} {ty : TypeId} {av : Av} {s : St}

theorem s_buildVec (hT : TOk P) {t e : TypeId} {n : Nat} {parts : Array (Nat × Operand)} {z : PV} {ps : List (Nat × PV)} {xs : List PV} (h1 : elemT P t = some e) (h2 : zeroPV P e = some z)
    (h3 : partsPV av parts.toList = some ps) (h4 : n * sizeT P e ≤ 65536) (h0 : 0 < sizeT P e) (h5 : fillE (sizeT P e) (List.replicate n z) ps = some xs) :
    Sound2 P (.buildSlice t n parts) ty av s (.vec s.vc.length 0) { s with vc := s.vc ++ [some (0, sizeT P e, xs)] } ∧ Sound2 P (.buildSlice t n parts) ty av s (.bld s.tp.length 0 xs) { s with tp := s.tp ++ [(0, sizeT P e)] } := by
  refine ⟨?_, ?_⟩ <;> intro F w0 M0 G a w o hS hA ho _ <;> obtain ⟨cells, g1, g2, g3, rfl⟩ := run_buildSlice hT hA h1 h2 h3 h4 h0 h5 w o ho
  · have hl := g2.1
    rw [length_flat g3] at hl
    obtain ⟨G', k1, k2, k3⟩ := hS.rowVec (VcAt.push s (0, sizeT P e, xs)) (cap := xs.length) h0 g3 e (vs := cells) (by simp at hl; omega) (Nat.le_refl _) (fun i p v e1 e2 => g2.2 i p v e1 (by simpa using e2))
    exact OpTo.value g1 ⟨G', k1, k2, k3⟩
  · have hl := g2.1
    rw [length_flat g3] at hl
    obtain ⟨G', k1, k2, k3⟩ := hS.rowBld (TpAt.push s (0, sizeT P e)) (cap := xs.length) (xs := xs) h0 g3 e (vs := cells) (by simp at hl; omega) (Nat.le_refl _) (fun i p v e1 e2 => g2.2 i p v e1 (by simpa using e2))
    exact OpTo.value g1 ⟨G', k1, k2, k3⟩

theorem s_makeSlice (hT : TOk P) {t e : TypeId} {y x : Operand} {n m : Int} {z : PV} (h1 : elemT P t = some e) (h2 : zeroPV P e = some z) (hy : av y = some (.pv (.int .i64 n))) (hx : av x = some (.pv (.int .i64 m)))
    (hn : 0 ≤ n) (hnm : n ≤ m) (hm : m ≤ 2147483648) (hb : bytesT P e ≤ 65536) (h0 : 0 < sizeT P e) :
    Sound2 P (.makeSlice t y x) ty av s (.vec s.vc.length 0) { s with vc := s.vc ++ [some (0, sizeT P e, List.replicate n.toNat z)] } ∧ Sound2 P (.makeSlice t y x) ty av s (.bld s.tp.length 0 (List.replicate n.toNat z)) { s with tp := s.tp ++ [(0, sizeT P e)] } := by
  have key : ∀ (G : Gh) (a : Act) (w : World) (o : Oper), Avs av G s a → o.op = .makeSlice t y x → ∃ cells : Array Value, (execOp a.eval o).run P w = .ok (.value (.slice (some ⟨w.heap.size, 0, none⟩) n.toNat m.toNat)) (w.alloc (.cells cells e)) ∧ m.toNat * sizeT P e ≤ cells.size ∧
      (∀ x, x ∈ List.replicate n.toNat z → x.cells.length = sizeT P e) ∧ ∀ (i : Nat) p v, (flat (List.replicate n.toNat z))[i]? = some p → cells[i]? = some v → PRep G.M p v ∧ p.one = true := by
    intro G a w o hA ho
    obtain ⟨i, zv, hi, hz, hrun, hof, hsz⟩ := run_zeroPV hT h2 w
    have hse := sizeT_of hi
    have hbe : bytesT P e = i.bytes := by simp [bytesT, hi]
    obtain ⟨hc, hzl⟩ := CRel.zeros (M := G.M) hof n.toNat (by omega)
    have hsl : ∀ x, x ∈ List.replicate n.toNat z → x.cells.length = sizeT P e := fun x hx => by rw [(List.mem_replicate.1 hx).2]; omega
    have e1 := rep_int (hA y _ hy)
    have e2 := rep_int (hA x _ hx)
    have hbytes : (i.bytes : Int) * m ≤ 281474976710656 := by
      have h3 : (i.bytes : Int) * m ≤ 65536 * m := Int.mul_le_mul_of_nonneg_right (by omega) (by omega)
      omega
    refine ⟨_, by simp [execOp, ho, e1, e2, run_make w t e i zv (elemT_eq h1) (info_of hi) hz .i64 .i64 n m hn hnm hbytes (by omega)]; rfl, by rw [size_madeCells, hse]; exact Nat.le_refl _, hsl, fun k p v h3 h4 => ?_⟩
    have hk : k < (flat (List.replicate n.toNat z)).length := (List.getElem?_eq_some_iff.1 h3).1
    refine hc.2 k p v h3 ?_
    rw [length_flat hsl, List.length_replicate, hse] at hk
    have hk2 : k < m.toNat * i.size := Nat.lt_of_lt_of_le hk (Nat.mul_le_mul_right _ (by omega))
    simp [madeCells, hk2] at h4
    rw [hsz] at h4
    simp [hsz, hk, h4]
  refine ⟨?_, ?_⟩ <;> intro F w0 M0 G a w o hS hA ho _ <;> obtain ⟨cells, g1, g2, g3, g4⟩ := key G a w o hA ho
  · obtain ⟨G', k1, k2, k3⟩ := hS.rowVec (VcAt.push s (0, sizeT P e, List.replicate n.toNat z)) (cap := m.toNat) h0 g3 e (vs := cells) g2 (by simp; omega) g4
    simp only [List.length_replicate] at k3
    exact OpTo.value g1 ⟨G', k1, k2, k3⟩
  · obtain ⟨G', k1, k2, k3⟩ := hS.rowBld (TpAt.push s (0, sizeT P e)) (cap := m.toNat) (xs := List.replicate n.toNat z) h0 g3 e (vs := cells) g2 (by simp; omega) g4
    simp only [List.length_replicate] at k3
    exact OpTo.value g1 ⟨G', k1, k2, k3⟩

/-! ### Appends -/
theorem lst_cells {M : Mem} {ys : List PV} {A : Option Addr} {n c sz : Nat} (h : PRep M (.lst ys) (.slice A n c)) (hs : ∀ y, y ∈ ys → y.cells.length = sz) (hne : ys ≠ []) :
    ∃ (ad : Addr) (us : List Value), A = some ad ∧ 0 < sz ∧ CRel M (flat ys) us ∧ us.length = ys.length * sz ∧ ∀ (j : Nat) v, us[j]? = some v → M (ad.add j) = some v := by
  cases h with
  | lst xs A' cap sz' vs hsz hlc0 hs' ho hA hm hr =>
    obtain ⟨ad, rfl⟩ : ∃ ad, A = some ad := by cases A with | none => exact absurd rfl (hA (Nat.lt_of_lt_of_le (List.length_pos_iff.2 hne) hlc0)) | some ad => exact ⟨ad, rfl⟩
    have hsz2 : sz' = sz := by
      obtain ⟨x, hx⟩ := List.exists_mem_of_ne_nil _ hne
      rw [← hs' x hx, ← hs x hx]
    subst hsz2
    have hfl := length_flat hs
    have hget : ∀ i, i < ys.length * sz' → ∃ x y, ys[i / sz']? = some x ∧ x.cells[i % sz']? = some y ∧ (flat ys)[i]? = some y := by
      intro i hi
      have h1 : i / sz' < ys.length := Nat.div_lt_of_lt_mul (by rw [Nat.mul_comm]; exact hi)
      have h2 : i % sz' < ys[i / sz'].cells.length := by rw [hs _ (List.getElem_mem h1)]; exact Nat.mod_lt _ hsz
      have := flat_get hs (List.getElem?_eq_getElem h1) (List.getElem?_eq_getElem h2)
      rw [show i / sz' * sz' + i % sz' = i from by rw [Nat.mul_comm]; exact Nat.div_add_mod _ _] at this
      exact ⟨_, _, List.getElem?_eq_getElem h1, List.getElem?_eq_getElem h2, this⟩
    refine ⟨ad, (List.range (ys.length * sz')).map fun i => vs (i / sz') (i % sz'), rfl, hsz, ⟨by simp [hfl], fun i p v h1 h2 => ?_⟩, by simp, fun j v hj => ?_⟩
    · have hi : i < ys.length * sz' := by rw [← hfl]; exact (List.getElem?_eq_some_iff.1 h1).1
      obtain ⟨x, y, e1, e2, e3⟩ := hget i hi
      rw [e3] at h1
      obtain rfl := Option.some.inj h1
      simp [hi] at h2
      subst h2
      exact ⟨hr _ x _ _ e1 e2, ho x (List.mem_of_getElem? e1) _ (List.mem_of_getElem? e2)⟩
    · have hi : j < ys.length * sz' := by have := (List.getElem?_eq_some_iff.1 hj).1; simpa using this
      obtain ⟨x, y, e1, e2, e3⟩ := hget j hi
      simp [hi] at hj
      subst hj
      have := hm ad rfl _ x _ y e1 e2
      rwa [show j / sz' * sz' + j % sz' = j from by rw [Nat.mul_comm]; exact Nat.div_add_mod _ _] at this

/-- An append that has room: whatever the block is called. -/
theorem run_append_in (w : World) {t ty e : TypeId} {i : TypeInfo} (ht : P.underlying t = some (.slice e)) (hi : P.info? e = some i) {A : Addr} (hsp : A.spot = none) {sLen sCap : Nat} {cur : Array Value} {T : TypeId} (hg : w.heap[A.block]? = some (.cells cur T (0, 0)))
    {a : Addr} {m c : Nat} {news : List Value} (hl : news.length = m * i.size) (hnews : ∀ (j : Nat) u, news[j]? = some u → w.cell? (a.add j) = some u) (h1 : ∀ u ∈ news, u.oneCell' = true) (hroom : sLen + m ≤ sCap) (hfit : A.off + sLen * i.size + news.length ≤ cur.size) :
    (Builtin.append_ #[t, t] ty #[.slice (some A) sLen sCap, .slice (some a) m c]).run P w = .ok (.slice (some A) (sLen + m) sCap) (w.setRow A.block (splice cur (A.off + sLen * i.size) news)) := by
  obtain ⟨b, off, spot⟩ := A
  simp only at hsp
  subst hsp
  have hf := run_firstCells_some (P := P) w i.size m a m c news hl hnews
  have hst := run_storeCells_at P b (off + sLen * i.size) T news 0 cur w hg (by simpa using hfit) h1
  simp only [Nat.add_zero] at hst
  simp [Builtin.append_, run_underlying ht, sizeOf, typeInfo, hi, Builtin.lenOf, hroom, hf, Addr.add_lit, hst, splice]

theorem run_append_none (w : World) {t ty e : TypeId} {i : TypeInfo} (ht : P.underlying t = some (.slice e)) (hi : P.info? e = some i) {A A' : Option Addr} {sLen sCap c : Nat} (hle : sLen ≤ sCap) :
    (Builtin.append_ #[t, t] ty #[.slice A sLen sCap, .slice A' 0 c]).run P w = .ok (.slice A sLen sCap) w := by
  cases A <;> cases A' <;> simp [Builtin.append_, run_underlying ht, sizeOf, typeInfo, hi, Builtin.lenOf, hle, Builtin.firstCells, loadCells, loadCellsFrom, storeCells]

theorem crel_one {M : Mem} {ps : List PV} {us : List Value} (h : CRel M ps us) : ∀ u, u ∈ us → u.oneCell' = true := fun u hu => by
  obtain ⟨k, hk, rfl⟩ := List.mem_iff_getElem.1 hu
  exact h.one (by rw [← h.1]; exact hk) (List.getElem?_eq_getElem hk)

theorem flat_append (xs ys : List PV) : flat (xs ++ ys) = flat xs ++ flat ys := by simp [flat]
theorem CRel.append {M : Mem} {ps qs : List PV} {us vs : List Value} (h : CRel M ps us) (k : CRel M qs vs) : CRel M (ps ++ qs) (us ++ vs) := by
  refine ⟨by simp [h.1, k.1], fun i p v h1 h2 => ?_⟩
  by_cases hi : i < ps.length
  · rw [List.getElem?_append_left hi] at h1
    rw [List.getElem?_append_left (by rw [h.1]; exact hi)] at h2
    exact h.2 i p v h1 h2
  · rw [List.getElem?_append_right (by omega)] at h1
    rw [List.getElem?_append_right (by rw [h.1]; omega), h.1] at h2
    exact k.2 _ p v h1 h2

theorem s_append (hT : TOk P) {c : Call} {t e : TypeId} {z : PV} {y x : Operand} {b : AV} {i v sz : Nat} {xs ys : List PV} (hc : c.callee = .builtin .append) (ha : c.args = #[y, x]) (ht : c.argTypes = #[t, t]) (h1 : elemT P t = some e) (h2 : zeroPV P e = some z)
    (hy : av y = some (.bld i v xs)) (hx : av x = some b) (hl : b.list = some ys) (hv : s.tp[i]? = some (v, sz)) (hsz : sz = sizeT P e) (hb : bytesT P e ≤ 65536) (hb0 : 0 < bytesT P e) (hh : headOk sz ys = true) (hsm : (xs.length + ys.length) * bytesT P e ≤ 141000000000000) :
    Sound2 P (.call c) ty av s (.bld i (v + 1) (xs ++ ys)) { s with tp := s.tp.set i (v + 1, sz) } := by
  intro F w0 M0 G a w o hS hA ho hty
  have hbld := hA y _ hy
  have hrep := list_rel (hA x b hx) hl
  obtain ⟨hil, hrx, htl⟩ := hbld
  obtain ⟨ti, zv, hti, hz, _, hof, hzs⟩ := run_zeroPV hT h2 w
  have hse := sizeT_of hti
  have hbe : bytesT P e = ti.bytes := by simp [bytesT, hti]
  obtain ⟨A', c', ex⟩ := rep_lst hrep
  rw [ex] at hrep
  obtain ⟨⟨A, k1, k2⟩, k3⟩ := (htl _ hv).2 rfl
  have hys := headOk_all hrep hh
  have hrun0 : (execOp a.eval o).run P w = ((Builtin.append_ #[t, t] ty #[a.eval y, .slice A' ys.length c']).run P w).andThen fun u w' => .ok (.value u) w' := by
    simp [execOp, ho, resolve, hc, ha, invoke, builtin, ht, ex, hty]
  obtain ⟨⟨t1, t2⟩, t3⟩ := hS.tp i _ hv
  simp only at t1
  by_cases hne : ys = []
  · subst hne
    simp only [List.length_nil] at hrun0
    rw [k1, run_append_none w (elemT_eq h1) (info_of hti) (by omega)] at hrun0
    obtain ⟨q1, q2⟩ := hS.bump hv
    refine OpTo.value hrun0 ⟨G, q1, q2, by simpa using hil, by rw [List.append_nil, ← k1]; exact hrx, fun cur hcur => ?_⟩
    simp only [List.getElem?_set_self hil, Option.some.injEq] at hcur
    subst hcur
    exact ⟨Nat.le_refl _, fun _ => by rw [List.append_nil]; exact ⟨⟨A, rfl, k2⟩, k3⟩⟩
  · obtain ⟨ad', us, rfl, hpos, hcu, hul, hM⟩ := lst_cells hrep hys hne
    have hyl : 0 < ys.length := List.length_pos_iff.2 hne
    have hnews : ∀ (j : Nat) u, us[j]? = some u → w.cell? (ad'.add j) = some u := fun j u hj => hS.agree _ _ (hM j u hj)
    by_cases hroom : ys.length ≤ (G.τ i).room
    · -- there is room
      have ht3 : ∃ b o vs T, (G.τ i).tail = some ⟨b, o, none⟩ ∧ G.own b = .tip i ∧ w.heap[b]? = some (.cells vs T (0, 0)) ∧ o + (G.τ i).room * (G.τ i).sz ≤ vs.size := by
        rcases t3 with ⟨_, t3⟩ | t3
        · omega
        · exact t3
      obtain ⟨b', o', vs', T', e1, _, _, _⟩ := ht3
      have hk2 := k2 (by omega)
      rw [e1] at hk2
      cases A with
      | none => cases hk2
      | some A =>
        simp only [Option.map_some, Option.some.injEq] at hk2
        have hsp : A.spot = none := by
          by_cases hxs : xs = []
          · subst hxs
            simp [Addr.add] at hk2
            rw [hk2]
          · rw [k1] at hrx
            obtain ⟨ad, us', q1, q2, q3, q4, q5⟩ := lst_cells hrx k3 hxs
            obtain rfl := Option.some.inj q1
            have hlen : 0 < us'.length := by rw [q4]; exact Nat.mul_pos (List.length_pos_iff.2 hxs) q2
            have := q5 0 us'[0] (List.getElem?_eq_getElem hlen)
            rw [Addr.add_zero'] at this
            exact World.cell?_spot (hS.agree _ _ this)
        obtain ⟨cells, T, m1, m2, G', m3, m4, m5⟩ := hS.inBld hv (A := A) (c := xs.length + (G.τ i).room) ⟨hil, by rw [← k1]; exact hrx, by rw [← k1]; exact htl⟩ hsp (by omega) hys hcu hyl
        rw [k1, run_append_in w (elemT_eq h1) (info_of hti) hsp m1 (by rw [hul, hsz, hse]) hnews (crel_one hcu) (by omega) (by rw [hsz, hse] at m2; exact m2)] at hrun0
        rw [hsz, hse] at m3
        rw [← hse, ← hsz] at m3 hrun0
        exact OpTo.value hrun0 ⟨G', m3, m4, m5⟩
    · -- a new row
      have hS' := hS.drew
      have hbytes : (xs.length + ys.length) * ti.bytes ≤ 141000000000000 := by rw [← hbe]; exact hsm
      have hcount : xs.length + ys.length ≤ 141000000000000 := Nat.le_trans (Nat.le_mul_of_pos_right _ (by omega)) hbytes
      have hwide : (xs.length + ys.length + (xs.length + ys.length) / 4 + 192) * ti.bytes ≤ 281474976710656 := by
        have h4 : (xs.length + ys.length) / 4 * ti.bytes ≤ 35250000000000 := by
          have : (xs.length + ys.length) / 4 * ti.bytes * 4 ≤ (xs.length + ys.length) * ti.bytes := by
            rw [Nat.mul_assoc, Nat.mul_comm ti.bytes 4, ← Nat.mul_assoc]
            exact Nat.mul_le_mul_right _ (Nat.div_mul_le_self _ _)
          omega
        have h5 : 192 * ti.bytes ≤ 192 * 65536 := Nat.mul_le_mul_left _ (by omega)
        rw [Nat.add_mul, Nat.add_mul]
        omega
      have fin : ∀ (old : List Value) (cp : Nat), CRel G.M (flat xs) old → (∀ x, x ∈ xs → x.cells.length = sz) → xs.length + ys.length ≤ grownCap w (xs.length + ys.length) cp e → (Builtin.append_ #[t, t] ty #[a.eval y, .slice (some ad') ys.length c']).run P w = .ok (.slice (some ⟨w.heap.size, 0, none⟩) (xs.length + ys.length) (grownCap w (xs.length + ys.length) cp e))
          (w.drew.alloc (.cells (old.toArray ++ us.toArray ++ Builtin.zeroCells zv.cells (grownCap w (xs.length + ys.length) cp e - (xs.length + ys.length))) e)) → OpTo P o a w fun u w' => ∃ G', SRel F w0 M0 G' { s with tp := s.tp.set i (v + 1, sz) } w' ∧ Ext G s G' { s with tp := s.tp.set i (v + 1, sz) } ∧ ARel G' { s with tp := s.tp.set i (v + 1, sz) } (.bld i (v + 1) (xs ++ ys)) u := by
        intro old cp ho1 hxs hge hrun
        rw [hrun] at hrun0
        have hall : ∀ x, x ∈ xs ++ ys → x.cells.length = sz := fun x hx => by rcases List.mem_append.1 hx with hx | hx <;> first | exact hxs x hx | exact hys x hx
        have hcr := ho1.append hcu
        rw [← flat_append] at hcr
        have hfl := length_flat hall
        have hlen : old.length + us.length = (xs.length + ys.length) * sz := by have := hcr.1; rw [hfl] at this; simpa using this
        obtain ⟨G', m3, m4, m5⟩ := hS'.rowBld (TpAt.set hv sz) (xs := xs ++ ys) (cap := grownCap w (xs.length + ys.length) cp e) (vs := old.toArray ++ us.toArray ++ Builtin.zeroCells zv.cells (grownCap w (xs.length + ys.length) cp e - (xs.length + ys.length))) hpos hall e (by
            simp only [Array.size_append, List.size_toArray, size_zeroCells, hlen, hzs, ← hse, ← hsz]
            rw [← Nat.add_mul, show xs.length + ys.length + (grownCap w (xs.length + ys.length) cp e - (xs.length + ys.length)) = grownCap w (xs.length + ys.length) cp e by omega]
            exact Nat.le_refl _) (by simpa using hge) (fun k p u h3 h4 => by
            have hk : k < (flat (xs ++ ys)).length := (List.getElem?_eq_some_iff.1 h3).1
            rw [Array.getElem?_append_left (by simp only [Array.size_append, List.size_toArray]; rw [hlen, ← List.length_append, ← hfl]; exact hk)] at h4
            exact hcr.2 k p u h3 (by simpa using h4))
        rw [List.length_append] at m5
        exact OpTo.value hrun0 ⟨G', m3, m4, m5⟩
      cases A with
      | none =>
        have hxs : xs = [] := by
          cases xs with
          | nil => rfl
          | cons x xs =>
            rw [k1] at hrx
            cases hrx with
            | lst _ _ _ _ _ _ _ _ _ hA' _ _ => exact absurd rfl (hA' (by simp only [List.length_cons]; omega))
        have hroom0 : (G.τ i).room = 0 := by
          rcases Nat.eq_zero_or_pos (G.τ i).room with h | h
          · exact h
          · have := k2 (by omega)
            simp at this
            rcases t3 with ⟨_, t3⟩ | ⟨b, o, vs, T, t3, _⟩
            · omega
            · rw [t3] at this; cases this
        subst hxs
        rw [hroom0] at k1
        simp only [List.length_nil, Nat.zero_add, Nat.add_zero] at k1 hsm hbytes hcount fin
        have hge := grownCap_ge w ys.length 0 e
        have := run_append_nil (P := P) w t ty e ti zv (elemT_eq h1) (info_of hti) hz ad' ys.length c' us (by rw [hul, hsz, hse]) hnews hyl (by omega) (by omega)
        rw [← k1] at this
        refine fin [] 0 ⟨rfl, by simp [flat]⟩ (by simp) hge ?_
        simpa using this
      | some A =>
        rw [k1] at hrx
        obtain ⟨old, o1, o2, o3⟩ : ∃ old : List Value, CRel G.M (flat xs) old ∧ old.length = xs.length * sz ∧ ∀ (j : Nat) u, old[j]? = some u → w.cell? (A.add j) = some u := by
          by_cases hxs : xs = []
          · subst hxs; exact ⟨[], ⟨rfl, by simp [flat]⟩, by simp, by simp⟩
          · have k3' : ∀ x, x ∈ xs → x.cells.length = sz := fun x hx => by rw [k3 x hx, t1]
            obtain ⟨ad, us', q1, q2, q3, q4, q5⟩ := lst_cells hrx k3' hxs
            obtain rfl := Option.some.inj q1
            exact ⟨us', q3, q4, fun j u hj => hS.agree _ _ (q5 j u hj)⟩
        have hg : xs.length + (G.τ i).room < xs.length + ys.length := by omega
        have := run_append_grow (P := P) w t ty e ti zv (elemT_eq h1) (info_of hti) hz A xs.length (xs.length + (G.τ i).room) old (by rw [o2, hsz, hse]) o3 ad' ys.length c' us (by rw [hul, hsz, hse]) hnews hg (by omega) (growslice_fits_wide hg hwide)
        rw [← k1] at this
        exact fin old _ o1 (fun x hx => by rw [k3 x hx, t1]) (grownCap_ge w _ _ e) this
end
end Go.AL

/- Operations on the store: vectors, closures over variables, and what is handed to a call. -/
set_option linter.unusedVariables false
set_option linter.unusedSimpArgs false
namespace Go.AL
open Go.RowKit

section
variable {P : Program} {ty : TypeId} {av : Av} {s : St}

theorem s_append_nil (hT : TOk P) {c : Call} {t e : TypeId} {z : PV} {y x : Operand} {b : AV} {ys : List PV} (hc : c.callee = .builtin .append) (ha : c.args = #[y, x]) (ht : c.argTypes = #[t, t]) (h1 : elemT P t = some e) (h2 : zeroPV P e = some z)
    (hy : av y = some (.pv .nils)) (hx : av x = some b) (hl : b.list = some ys) (hb : bytesT P e ≤ 65536) (hpos : 0 < sizeT P e) (hb0 : 0 < bytesT P e) (hh : headOk (sizeT P e) ys = true) (hsm : ys.length * bytesT P e ≤ 141000000000000) :
    Sound2 P (.call c) ty av s (.bld s.tp.length 0 ys) { s with tp := s.tp ++ [(0, sizeT P e)] } := by
  intro F w0 M0 G a w o hS hA ho hty
  have k1 := rep_nils (hA y _ hy)
  have hrep := list_rel (hA x b hx) hl
  obtain ⟨ti, zv, hti, hz, _, hof, hzs⟩ := run_zeroPV hT h2 w
  have hse := sizeT_of hti
  have hbe : bytesT P e = ti.bytes := by simp [bytesT, hti]
  obtain ⟨A', c', ex⟩ := rep_lst hrep
  rw [ex] at hrep
  have hys := headOk_all hrep hh
  have hrun0 : (execOp a.eval o).run P w = ((Builtin.append_ #[t, t] ty #[.slice none 0 0, .slice A' ys.length c']).run P w).andThen fun u w' => .ok (.value u) w' := by
    simp [execOp, ho, resolve, hc, ha, invoke, builtin, ht, ex, hty, k1]
  by_cases hne : ys = []
  · subst hne
    simp only [List.length_nil] at hrun0
    rw [run_append_none w (elemT_eq h1) (info_of hti) (by omega)] at hrun0
    obtain ⟨G', q1, q2, q3⟩ := hS.newTip (sizeT P e) hpos
    exact OpTo.value hrun0 ⟨G', q1, q2, q3 _ .nils⟩
  · obtain ⟨ad', us, rfl, _, hcu, hul, hM⟩ := lst_cells hrep hys hne
    have hyl : 0 < ys.length := List.length_pos_iff.2 hne
    have hnews : ∀ (j : Nat) u, us[j]? = some u → w.cell? (ad'.add j) = some u := fun j u hj => hS.agree _ _ (hM j u hj)
    have hbytes : ys.length * ti.bytes ≤ 141000000000000 := by rw [← hbe]; exact hsm
    have hcount : ys.length ≤ 141000000000000 := Nat.le_trans (Nat.le_mul_of_pos_right _ (by omega)) hbytes
    rw [run_append_nil (P := P) w t ty e ti zv (elemT_eq h1) (info_of hti) hz ad' ys.length c' us (by rw [hul, hse]) hnews hyl (by omega) (by omega)] at hrun0
    have hge := grownCap_ge w ys.length 0 e
    obtain ⟨G', m3, m4, m5⟩ := hS.drew.rowBld (TpAt.push s (0, sizeT P e)) (xs := ys) (cap := grownCap w ys.length 0 e) (vs := us.toArray ++ Builtin.zeroCells zv.cells (grownCap w ys.length 0 e - ys.length)) hpos hys e (by
        simp only [Array.size_append, List.size_toArray, size_zeroCells, hul, hzs, ← hse]
        rw [← Nat.add_mul, show ys.length + (grownCap w ys.length 0 e - ys.length) = grownCap w ys.length 0 e by omega]
        exact Nat.le_refl _) hge (fun k p u h3 h4 => by
        have hk : k < (flat ys).length := (List.getElem?_eq_some_iff.1 h3).1
        rw [Array.getElem?_append_left (by simp only [List.size_toArray]; rw [hul, ← length_flat hys]; exact hk)] at h4
        exact hcu.2 k p u h3 (by simpa using h4))
    exact OpTo.value hrun0 ⟨G', m3, m4, m5⟩

theorem s_append_nilV (hT : TOk P) {c : Call} {t e : TypeId} {z : PV} {y x : Operand} {b : AV} {ys : List PV} (hc : c.callee = .builtin .append) (ha : c.args = #[y, x]) (ht : c.argTypes = #[t, t]) (h1 : elemT P t = some e) (h2 : zeroPV P e = some z)
    (hy : av y = some (.pv .nils)) (hx : av x = some b) (hl : b.list = some ys) (hb : bytesT P e ≤ 65536) (hpos : 0 < sizeT P e) (hb0 : 0 < bytesT P e) (hh : headOk (sizeT P e) ys = true) (hsm : ys.length * bytesT P e ≤ 141000000000000) :
    Sound2 P (.call c) ty av s (.vec s.vc.length 0) { s with vc := s.vc ++ [some (0, sizeT P e, ys)] } := by
  intro F w0 M0 G a w o hS hA ho hty
  have k1 := rep_nils (hA y _ hy)
  have hrep := list_rel (hA x b hx) hl
  obtain ⟨ti, zv, hti, hz, _, hof, hzs⟩ := run_zeroPV hT h2 w
  have hse := sizeT_of hti
  have hbe : bytesT P e = ti.bytes := by simp [bytesT, hti]
  obtain ⟨A', c', ex⟩ := rep_lst hrep
  rw [ex] at hrep
  have hys := headOk_all hrep hh
  have hrun0 : (execOp a.eval o).run P w = ((Builtin.append_ #[t, t] ty #[.slice none 0 0, .slice A' ys.length c']).run P w).andThen fun u w' => .ok (.value u) w' := by
    simp [execOp, ho, resolve, hc, ha, invoke, builtin, ht, ex, hty, k1]
  by_cases hne : ys = []
  · subst hne
    simp only [List.length_nil] at hrun0
    rw [run_append_none w (elemT_eq h1) (info_of hti) (by omega)] at hrun0
    obtain ⟨G', q1, q2, q3⟩ := hS.attachVec (hd := ⟨none, 0, sizeT P e⟩) (xs := []) hpos (by simp) (.inl ⟨rfl, rfl, rfl⟩)
    exact OpTo.value hrun0 ⟨G', q1, q2, q3⟩
  · obtain ⟨ad', us, rfl, _, hcu, hul, hM⟩ := lst_cells hrep hys hne
    have hyl : 0 < ys.length := List.length_pos_iff.2 hne
    have hnews : ∀ (j : Nat) u, us[j]? = some u → w.cell? (ad'.add j) = some u := fun j u hj => hS.agree _ _ (hM j u hj)
    have hbytes : ys.length * ti.bytes ≤ 141000000000000 := by rw [← hbe]; exact hsm
    have hcount : ys.length ≤ 141000000000000 := Nat.le_trans (Nat.le_mul_of_pos_right _ (by omega)) hbytes
    rw [run_append_nil (P := P) w t ty e ti zv (elemT_eq h1) (info_of hti) hz ad' ys.length c' us (by rw [hul, hse]) hnews hyl (by omega) (by omega)] at hrun0
    have hge := grownCap_ge w ys.length 0 e
    obtain ⟨G', m3, m4, m5⟩ := hS.drew.rowVec (VcAt.push s (0, sizeT P e, ys)) (xs := ys) (cap := grownCap w ys.length 0 e) (vs := us.toArray ++ Builtin.zeroCells zv.cells (grownCap w ys.length 0 e - ys.length)) hpos hys e (by
        simp only [Array.size_append, List.size_toArray, size_zeroCells, hul, hzs, ← hse]
        rw [← Nat.add_mul, show ys.length + (grownCap w ys.length 0 e - ys.length) = grownCap w ys.length 0 e by omega]
        exact Nat.le_refl _) hge (fun k p u h3 h4 => by
        have hk : k < (flat ys).length := (List.getElem?_eq_some_iff.1 h3).1
        rw [Array.getElem?_append_left (by simp only [List.size_toArray]; rw [hul, ← length_flat hys]; exact hk)] at h4
        exact hcu.2 k p u h3 (by simpa using h4))
    exact OpTo.value hrun0 ⟨G', m3, m4, m5⟩

/-! ### Vectors -/
theorem s_index_vec (hT : TOk P) {t e : TypeId} {y x : Operand} {j ver sz : Nat} {xs : List PV} {i : Int} (h1 : elemT P t = some e) (hy : av y = some (.vec j ver)) (hx : av x = some (.pv (.int .i64 i))) (hj : s.vc[j]? = some (some (ver, sz, xs))) (hsz : sz = sizeT P e)
    (h0 : 0 ≤ i) (hlt : i < xs.length) : Sound2 P (.indexAddr t y x) ty av s (.elt j ver i.toNat 0) s := by
  intro F w0 M0 G a w o hS hA ho _
  obtain ⟨g1, _, g3⟩ := hA y _ hy
  have g4 := (g3 _ _ hj).2 rfl
  simp only at g4
  have e2 := rep_int (hA x _ hx)
  obtain ⟨⟨r0, r0'⟩, r1, r2⟩ := hS.vc j ver sz xs hj
  rcases r2 with ⟨_, _, rfl⟩ | ⟨b, of, vs, T, q1, q2, q3, q4, q5, q6⟩
  · simp at hlt; omega
  · cases hti : P.types[e]? with
    | none => simp [sizeT, hti] at hsz; omega
    | some ti =>
      have hse := sizeT_of hti
      rw [q1] at g4
      have hrun : (execOp a.eval o).run P w = .ok (.value (.pointer (some ((⟨b, of, none⟩ : Addr).add (i.toNat * ti.size))))) w := by
        simp only [execOp, ho, Instr.indexAt]
        simp [g4, e2, asIntOf, run_underlying (elemT_eq h1), run_sizeOf' hti, h0, hlt]
      refine OpTo.value hrun ⟨G, hS, Ext.refl _ _, g1, ⟨_, rfl⟩, fun cur ys hc => ?_⟩
      rw [hj] at hc
      simp only [Option.some.injEq, Prod.mk.injEq] at hc
      obtain ⟨rfl, rfl⟩ := hc
      exact ⟨Nat.le_refl _, fun _ => ⟨_, q1, by rw [r0, hsz, hse, Nat.add_zero]⟩⟩

theorem s_len_vec {c : Call} {y : Operand} {t e : TypeId} {j ver sz : Nat} {xs : List PV} (hc : c.callee = .builtin .len) (ha : c.args = #[y]) (ht : c.argTypes[0]? = some t) (hu : P.underlying t = some (.slice e)) (hy : av y = some (.vec j ver))
    (hj : s.vc[j]? = some (some (ver, sz, xs))) : Sound2 P (.call c) ty av s (.pv (.int .i64 xs.length)) s := by
  intro F w0 M0 G a w o hS hA ho _
  obtain ⟨g1, _, g3⟩ := hA y _ hy
  have g4 := (g3 _ _ hj).2 rfl
  simp only at g4
  exact OpTo.value (u := .int .i64 xs.length) (by simp [execOp, ho, resolve, hc, ha, invoke, builtin, Builtin.len_, ht, run_underlying hu, g4, goInt]) ⟨G, hS, Ext.refl _ _, .int _ _⟩

/-- A part of a vector. -/
theorem s_slice_vec (hT : TOk P) {t e : TypeId} {y : Operand} {lo hi : Option Operand} {l h : Option Int} {j ver sz : Nat} {xs : List PV} (h1 : elemT P t = some e) (hy : av y = some (.vec j ver)) (hl : bound av lo = some l) (hh : bound av hi = some h)
    (hj : s.vc[j]? = some (some (ver, sz, xs))) (hsz : sz = sizeT P e) (hb : okB xs.length l h) :
    Sound2 P (.slice t y lo hi none) ty av s (.vec j (ver + 1)) { s with vc := s.vc.set j (some (ver + 1, sz, (xs.take (hi0 h xs.length)).drop (lo0 l))) } := by
  intro F w0 M0 G a w o hS hA ho _
  obtain ⟨g1, _, g3⟩ := hA y _ hy
  have g4 := (g3 _ _ hj).2 rfl
  simp only at g4
  obtain ⟨⟨r0, r0'⟩, r1, r2⟩ := hS.vc j ver sz xs hj
  cases hti : P.types[e]? with
  | none => simp [sizeT, hti] at hsz; omega
  | some ti =>
    have hse := sizeT_of hti
    obtain ⟨b1, b2, b3⟩ := hb
    have hh' : hi0 h xs.length ≤ xs.length := by unfold hi0; omega
    have hl' : lo0 l ≤ hi0 h xs.length := by unfold hi0 lo0; omega
    have hlen : ((xs.take (hi0 h xs.length)).drop (lo0 l)).length = hi0 h xs.length - lo0 l := by simp; omega
    rcases r2 with ⟨q1, q2, rfl⟩ | ⟨b, of, vs, T, q1, q2, q3, q4, q5, q6⟩
    · rw [q1, q2] at g4
      have hrun := run_slice h1 hti hA g4 (Nat.le_refl _) hl hh ⟨b1, b2, b3⟩ w ho
      obtain ⟨k1, k2, k3⟩ := hS.reVecNil (ver := ver + 1) hj (by omega) q1 q2
      have hz : hi0 h 0 = 0 := by simpa using hh'
      have hz2 : lo0 l = 0 := by rw [show ([] : List PV).length = 0 from rfl, hz] at hl'; omega
      simp only [List.length_nil, hz, hz2] at hrun ⊢
      refine OpTo.value hrun ⟨G, by simpa using k1, by simpa using k2, by simpa using k3⟩
    · rw [q1] at g4
      have hrun := run_slice h1 hti hA g4 q5 hl hh ⟨b1, b2, b3⟩ w ho
      let of' := if (G.ν j).cap = lo0 l then of else of + lo0 l * ti.size
      have hA' : (if (G.ν j).cap = lo0 l then some (⟨b, of, none⟩ : Addr) else (some (⟨b, of, none⟩ : Addr)).map (·.add (lo0 l * ti.size))) = some ⟨b, of', none⟩ := by
        simp only [of']
        split
        · rfl
        · simp [Addr.add_lit]
      rw [hA'] at hrun
      have hcap : of' + ((G.ν j).cap - lo0 l) * sz ≤ vs.size := by
        simp only [of']
        rw [r0] at q4
        split
        · rename_i hc; rw [hc]; simp; have := q4; rw [hc] at this; omega
        · have : lo0 l * sz + ((G.ν j).cap - lo0 l) * sz = (G.ν j).cap * sz := by rw [← Nat.add_mul]; congr 1; omega
          rw [← hse, ← hsz]; omega
      obtain ⟨G', k1, k2, k3⟩ := hS.reVec (VcAt.set hj (ver + 1, sz, (xs.take (hi0 h xs.length)).drop (lo0 l)) (by simp)) (b := b) (o' := of') (cap' := (G.ν j).cap - lo0 l) (vs := vs) (vs' := vs) (T := T) q2 q3 (by omega) hcap (by rw [hlen]; omega)
        (fun x hx => by rw [← r0]; exact r1 x (List.mem_of_mem_take (List.mem_of_mem_drop hx))) (fun j' x k' y' e1 e2 => by
          have hj' : j' < ((xs.take (hi0 h xs.length)).drop (lo0 l)).length := (List.getElem?_eq_some_iff.1 e1).1
          rw [hlen] at hj'
          rw [List.getElem?_drop, List.getElem?_take_of_lt (by omega)] at e1
          obtain ⟨v, e3, e4⟩ := q6 _ x k' y' e1 e2
          refine ⟨v, ?_, e4⟩
          have hne : ¬ (G.ν j).cap = lo0 l := by omega
          simp only [of', if_neg hne]
          rw [r0] at e3
          rw [← e3, ← hse, ← hsz, Nat.add_mul]
          congr 1
          omega)
      rw [setRow_self w b vs T (0, 0) q3] at k1
      rw [hlen] at k3
      exact OpTo.value hrun ⟨G', k1, k2, k3⟩

/-! ### Closures -/
theorem rep_one {M : Mem} {p : PV} {v : Value} (h : PRep M p v) (hv : v.oneCell' = true) : p.one = true := by
  cases h <;> first | rfl | (simp [Value.oneCell'] at hv)

variable {F : Fr} {w0 : World} {M0 : Mem} {w : World}

theorem capture_rel {G : Gh} (hS : SRel F w0 M0 G s w) {b : AV} {u : Value} {p : PV} {s' : St} (hr : ARel G s b u) (h : capture b s = some (p, s')) : ∃ G', SRel F w0 M0 G' s' w ∧ Ext G s G' s' ∧ PRep G'.M p u := by
  unfold capture at h
  split at h
  · rename_i i
    split at h
    · rename_i z cs hi
      split at h
      · rename_i ps hps
        simp only [Option.some.injEq, Prod.mk.injEq] at h
        obtain ⟨rfl, rfl⟩ := h
        obtain ⟨hil, bl, hb, rfl⟩ := hr
        obtain ⟨p1, p2, p3, ob, p4, p0⟩ := hS.bx i z cs bl hi hb
        obtain ⟨vs, T, rfl, p5, p6⟩ := p0.cells (toPVs_cells hps)
        obtain ⟨q1, q2⟩ := toPVs_get hps
        refine hS.freeze hi hb hps fun p hp => ?_
        obtain ⟨k, hk, rfl⟩ := List.mem_iff_getElem.1 hp
        have hk2 : k < cs.length := by omega
        obtain ⟨p', e1, e2⟩ := q2 k cs[k] (List.getElem?_eq_getElem hk2)
        rw [List.getElem?_eq_getElem hk] at e1
        obtain rfl := Option.some.inj e1
        have := p6 k cs[k] vs[k] (List.getElem?_eq_getElem hk2) (Array.getElem?_eq_getElem (by omega))
        exact rep_one (toPV_rel this.1 e2) this.2
      · cases h
    · cases h
  · split at h
    · rename_i p' hp
      simp only [Option.some.injEq, Prod.mk.injEq] at h
      obtain ⟨rfl, rfl⟩ := h
      exact ⟨G, hS, Ext.refl _ _, toPV_rel hr hp⟩
    · cases h

theorem captures_rel : ∀ {l : List AV} {us : List Value} {ps : List PV} {s s' : St} {G : Gh}, SRel F w0 M0 G s w → us.length = l.length → (∀ (i : Nat) b u, l[i]? = some b → us[i]? = some u → ARel G s b u) → captures l s = some (ps, s') →
    ∃ G', SRel F w0 M0 G' s' w ∧ Ext G s G' s' ∧ us.length = ps.length ∧ ∀ (i : Nat) p u, ps[i]? = some p → us[i]? = some u → PRep G'.M p u
  | [], us, ps, s, s', G, hS, hl, hr, h => by
    simp only [captures, Option.some.injEq, Prod.mk.injEq] at h
    obtain ⟨rfl, rfl⟩ := h
    exact ⟨G, hS, Ext.refl _ _, hl, by simp⟩
  | b :: l, us, ps, s, s', G, hS, hl, hr, h => by
    cases us with
    | nil => simp at hl
    | cons u us =>
      simp only [captures] at h
      split at h
      · rename_i p s1 hp
        split at h
        · rename_i ps' s2 hps
          simp only [Option.some.injEq, Prod.mk.injEq] at h
          obtain ⟨rfl, rfl⟩ := h
          obtain ⟨G1, a1, a2, a3⟩ := capture_rel hS (hr 0 b u rfl rfl) hp
          obtain ⟨G2, b1, b2, b3, b4⟩ := captures_rel a1 (by simpa using hl) (fun i b' u' h1 h2 => (hr (i + 1) b' u' (by simpa using h1) (by simpa using h2)).ext a2) hps
          refine ⟨G2, b1, a2.trans b2, by simp [b3], fun i q v h1 h2 => ?_⟩
          cases i with
          | zero => simp at h1 h2; subst h1; subst h2; exact a3.mono b2.M
          | succ i => exact b4 i q v (by simpa using h1) (by simpa using h2)
        · cases h
      · cases h

theorem s_makeFunc2 {g : FuncId} {caps first : Array Operand} {bs : List AV} {ps : List PV} {s' : St} (hf : first.isEmpty = true) (h1 : caps.toList.mapM av = some bs) (h2 : captures bs s = some (ps, s')) : Sound2 P (.makeFunc (.func g) first caps) ty av s (.pv (.fn g ps)) s' := by
  intro F w0 M0 G a w o hS hA ho _
  obtain ⟨g1, g2⟩ := avs_rel hA h1
  obtain ⟨G', k1, k2, k3, k4⟩ := captures_rel (us := (caps.map a.eval).toList) hS (by simp [g1]) (fun i b u e1 e2 => by
    simp only [Array.toList_map, List.getElem?_map] at e2
    cases hy : caps.toList[i]? with
    | none => rw [hy] at e2; cases e2
    | some y =>
      rw [hy] at e2
      obtain rfl := Option.some.inj e2
      exact g2 i b y e1 hy) h2
  have hf' : first = #[] := by simpa using hf
  refine OpTo.value (u := .func (.func g) #[] (caps.map a.eval)) (by simp [execOp, ho, Instr.makeFunc, hf']) ⟨G', k1, k2, ?_⟩
  have := PRep.fn (M := G'.M) g ps (caps.map a.eval).toList k3 k4
  rw [Array.toArray_toList] at this
  exact this
end
end Go.AL

/- Windows of vectors: a part is looked at, is cleared. -/
set_option linter.unusedVariables false
set_option linter.unusedSimpArgs false
namespace Go.AL
open Go.RowKit

section
variable {P : Program} {ty : TypeId} {av : Av} {s : St}

theorem s_slice_win (hT : TOk P) {t e : TypeId} {y : Operand} {lo hi : Option Operand} {l h : Option Int} {j ver sz : Nat} {xs : List PV} (h1 : elemT P t = some e) (hy : av y = some (.vec j ver)) (hl : bound av lo = some l) (hh : bound av hi = some h)
    (hj : s.vc[j]? = some (some (ver, sz, xs))) (hsz : sz = sizeT P e) (hb : okB xs.length l h) :
    Sound2 P (.slice t y lo hi none) ty av s (.win j ver (lo0 l) (hi0 h xs.length)) s := by
  intro F w0 M0 G a w o hS hA ho _
  obtain ⟨g1, _, g3⟩ := hA y _ hy
  have g4 := (g3 _ _ hj).2 rfl
  simp only at g4
  obtain ⟨⟨r0, r0'⟩, r1, r2⟩ := hS.vc j ver sz xs hj
  cases hti : P.types[e]? with
  | none => simp [sizeT, hti] at hsz; omega
  | some ti =>
    have hse := sizeT_of hti
    have hcap : xs.length ≤ (G.ν j).cap := by
      rcases r2 with ⟨q1, q2, rfl⟩ | ⟨b, of, vs, T, q1, q2, q3, q4, q5, q6⟩
      · simp
      · exact q5
    have hrun := run_slice h1 hti hA g4 hcap hl hh hb w ho
    obtain ⟨b1, b2, b3⟩ := hb
    refine OpTo.value hrun ⟨G, hS, Ext.refl _ _, g1, ⟨_, _, _, rfl⟩, fun cur ys hc => ?_⟩
    rw [hj] at hc
    simp only [Option.some.injEq, Prod.mk.injEq] at hc
    obtain ⟨rfl, rfl⟩ := hc
    refine ⟨Nat.le_refl _, fun _ => ⟨by unfold hi0 lo0; omega, by unfold hi0; simp only; omega, ?_⟩⟩
    simp only [winA, r0, hsz, hse]

theorem clr_length {xs : List PV} {lo hi : Nat} {z : PV} (h1 : lo ≤ hi) (h2 : hi ≤ xs.length) : (clr xs lo hi z).length = xs.length := by
  simp [clr]; omega
theorem clr_get {xs : List PV} {lo hi : Nat} {z : PV} (h1 : lo ≤ hi) (h2 : hi ≤ xs.length) (k : Nat) : (clr xs lo hi z)[k]? = if lo ≤ k ∧ k < hi then some z else xs[k]? := by
  unfold clr
  by_cases h : lo ≤ k ∧ k < hi
  · rw [if_pos h, List.getElem?_append_left (by simp; omega), List.getElem?_append_right (by simp; omega)]
    simp only [List.length_take, List.getElem?_replicate]
    rw [if_pos (by omega)]
  · rw [if_neg h]
    by_cases hk : k < lo
    · rw [List.append_assoc, List.getElem?_append_left (by simp; omega), List.getElem?_take_of_lt hk]
    · rw [List.getElem?_append_right (by simp; omega)]
      simp only [List.length_append, List.length_take, List.length_replicate, List.getElem?_drop]
      congr 1; omega
theorem set_same {α : Type} {l : List α} {j : Nat} {x : α} (h : l[j]? = some x) : l.set j x = l := by
  apply List.ext_getElem?
  intro i
  by_cases hi : j = i
  · subst hi
    rw [List.getElem?_set_self (List.getElem?_eq_some_iff.1 h).1, h]
  · rw [List.getElem?_set_ne hi]

theorem s_clear_win (hT : TOk P) {c : Call} {y : Operand} {t e : TypeId} {z : PV} {j ver lo hi : Nat} {xs : List PV} (hc : c.callee = .builtin .clear) (ha : c.args = #[y]) (ht : c.argTypes[0]? = some t) (he : elemT P t = some e) (hz : zeroPV P e = some z) (hz1 : z.one = true)
    (hy : av y = some (.win j ver lo hi)) (hj : s.vc[j]? = some (some (ver, 1, xs))) : Sound2 P (.call c) ty av s .any { s with vc := s.vc.set j (some (ver, 1, clr xs lo hi z)) } := by
  intro F w0 M0 G a w o hS hA ho _
  obtain ⟨g1, _, g3⟩ := hA y _ hy
  obtain ⟨k1, k2, g4⟩ := (g3 _ _ hj).2 rfl
  simp only at k2
  obtain ⟨⟨r0, r0'⟩, r1, r2⟩ := hS.vc j ver 1 xs hj
  obtain ⟨ti, zv, hti, hzv, hrunz, hrep, _⟩ := run_zeroPV hT hz w
  by_cases hn : hi - lo = 0
  · have hlh : lo = hi := by omega
    subst hlh
    have hx : clr xs lo lo z = xs := by simp [clr]
    rw [hx, set_same hj]
    have hrun : (execOp a.eval o).run P w = .ok (.value (.tuple #[])) w := by
      rw [Nat.sub_self] at g4
      cases hA' : winA (G.ν j) lo with
      | none => rw [hA'] at g4; simp [execOp, ho, resolve, hc, ha, invoke, builtin, Builtin.clear_, ht, run_underlying (elemT_eq he), g4]
      | some ad => rw [hA'] at g4; simp [execOp, ho, resolve, hc, ha, invoke, builtin, Builtin.clear_, ht, run_underlying (elemT_eq he), g4]
    exact OpTo.value hrun ⟨G, hS, Ext.refl _ _, trivial⟩
  · have hlt : lo < hi := by omega
    rcases r2 with ⟨q1, q2, rfl⟩ | ⟨b, of, vs, T, q1, q2, q3, q4, q5, q6⟩
    · simp at k2; omega
    have hrz : PRep G.M z zv := ofConst_rep hrep
    have hz1' : zv.oneCell' = true := hrz.one hz1
    have hzc : zv.cells = #[zv] := by cases zv <;> simp [Value.cells, Value.oneCell'] at hz1' ⊢
    have hcap : ¬ (G.ν j).cap = lo := by omega
    have hw : winA (G.ν j) lo = some ⟨b, of + lo, none⟩ := by
      simp only [winA, if_neg hcap, q1, r0, Nat.mul_one, Option.map_some, Addr.add_lit]
    rw [hw] at g4
    rw [r0, Nat.mul_one] at q4
    have hzl : (Builtin.zeroCells zv.cells (hi - lo)).toList = List.replicate (hi - lo) zv := by
      rw [hzc]
      simp [Builtin.zeroCells]
      apply List.ext_getElem
      · simp
      · intro i h1 h2
        simp [Nat.mod_one]
    have hst := run_storeCells_at (P := P) b (of + lo) T (List.replicate (hi - lo) zv) 0 vs w q3 (by simp; omega) (by intro v hv; rw [List.eq_of_mem_replicate hv]; exact hz1')
    have hspl : (vs.toList.take (of + lo + 0) ++ List.replicate (hi - lo) zv ++ vs.toList.drop (of + lo + 0 + (List.replicate (hi - lo) zv).length)).toArray = splice vs (of + lo) (List.replicate (hi - lo) zv) := by
      simp [splice]
    rw [hspl] at hst
    have hf : of + lo + (List.replicate (hi - lo) zv).length ≤ vs.size := by simp; omega
    have hrun : (execOp a.eval o).run P w = .ok (.value (.tuple #[])) (w.setRow b (splice vs (of + lo) (List.replicate (hi - lo) zv))) := by
      obtain ⟨n, hn'⟩ : ∃ n, hi - lo = n + 1 := ⟨hi - lo - 1, by omega⟩
      rw [hn'] at g4 hst hzl ⊢
      simp [execOp, ho, resolve, hc, ha, invoke, builtin, Builtin.clear_, ht, run_underlying (elemT_eq he), g4, hrunz, hzl, hst]
    obtain ⟨u1, u2⟩ := hS.updVec (xs' := clr xs lo hi z) (vs' := splice vs (of + lo) (List.replicate (hi - lo) zv)) hj q1 q2 q3 (size_splice hf) (clr_length k1 k2) (fun x hx => by
        obtain ⟨i, hi', rfl⟩ := List.mem_iff_getElem.1 hx
        have := clr_get (z := z) k1 k2 i
        rw [List.getElem?_eq_getElem hi'] at this
        split at this
        · rw [Option.some.inj this]
          have hzc2 : z.cells = [z] := by cases z <;> simp [PV.one] at hz1 <;> rfl
          rw [hzc2]
          exact ⟨rfl, fun y hy => by rw [List.mem_singleton.1 hy]; exact hz1⟩
        · have h3 := r1 _ (List.mem_of_getElem? this.symm)
          rw [r0] at h3
          exact h3)
      (fun i x k y h3 h4 => by
        rw [splice_get hf]
        have hzc2 : z.cells = [z] := by cases z <;> simp [PV.one] at hz1 <;> rfl
        rw [clr_get k1 k2] at h3
        have hlr : (List.replicate (hi - lo) zv).length = hi - lo := by simp
        have hk1 : x.cells.length = 1 := by
          split at h3
          · rw [← Option.some.inj h3, hzc2]; rfl
          · have h5 := (r1 _ (List.mem_of_getElem? h3)).1
            rw [r0] at h5; exact h5
        have hk0 : k = 0 := by have := (List.getElem?_eq_some_iff.1 h4).1; omega
        subst hk0
        split at h3
        · rename_i hin
          obtain rfl := Option.some.inj h3
          rw [if_pos (by omega)]
          refine ⟨zv, by rw [List.getElem?_replicate, if_pos (by omega)], ?_⟩
          rw [hzc2] at h4
          obtain rfl := Option.some.inj h4
          exact hrz
        · rename_i hin
          rw [if_neg (by omega)]
          have := q6 i x 0 y h3 h4
          rw [r0] at this
          exact this)
    exact OpTo.value hrun ⟨G, u1, u2, trivial⟩
end
end Go.AL

/- Maps of the call's own: made, looked up, updated. -/
set_option linter.unusedVariables false
set_option linter.unusedSimpArgs false
namespace Go.AL
open Go.RowKit

def KTok (P : Program) (kt : TypeId) : KT → Prop
  | .one b => bkT P kt = some b
  | .agg l => aggT P kt = some l

theorem mapT_eq {P : Program} {t e : TypeId} {n : KT} (h : mapT P t = some (n, e)) : ∃ kt, P.underlying t = some (.map kt e) ∧ KTok P kt n := by
  unfold mapT at h
  split at h
  · rename_i kt e' hu
    split at h
    · rename_i l hl
      simp only [Option.some.injEq, Prod.mk.injEq] at h
      obtain ⟨rfl, rfl⟩ := h
      exact ⟨kt, hu, hl⟩
    · split at h
      · rename_i b hb
        simp only [Option.some.injEq, Prod.mk.injEq] at h
        obtain ⟨rfl, rfl⟩ := h
        exact ⟨kt, hu, hb⟩
      · cases h
  · cases h

/-- At which place of the entries a key is. -/
def mfind (n : KT) : List (PV × PV) → PV → Option (Option Nat)
  | [], _ => some none
  | e :: es, k => match keyEq n k e.1 with
    | some b => bif b then some (some 0) else (mfind n es k).map (Option.map (· + 1))
    | none => none

theorem mget_find {n : KT} {k : PV} : ∀ {es : List (PV × PV)} {o : Option PV}, mget n es k = some o → ∃ m, mfind n es k = some m ∧ (m = none → o = none) ∧ ∀ j, m = some j → ∃ e, es[j]? = some e ∧ o = some e.2
  | [], o, h => by obtain rfl := Option.some.inj h; exact ⟨none, rfl, fun _ => rfl, fun j h => by cases h⟩
  | e :: es, o, h => by
    simp only [mget] at h
    simp only [mfind]
    split at h
    · rename_i b hb
      cases b with
      | true =>
        simp only [cond_true] at h
        obtain rfl := Option.some.inj h
        exact ⟨some 0, by rw [hb]; rfl, fun h => (by cases h), fun j h => by obtain rfl := Option.some.inj h; exact ⟨e, rfl, rfl⟩⟩
      | false =>
        simp only [cond_false] at h
        obtain ⟨m, g1, g2, g3⟩ := mget_find h
        refine ⟨m.map (· + 1), by rw [hb]; simp [g1], fun h => g2 (by simpa using h), fun j h => ?_⟩
        cases m with
        | none => cases h
        | some j' =>
          obtain rfl := Option.some.inj h
          obtain ⟨e', q1, q2⟩ := g3 j' rfl
          exact ⟨e', by simpa using q1, q2⟩
    · cases h

theorem mset_find {n : KT} {k v : PV} : ∀ {es es' : List (PV × PV)}, mset n es k v = some es' → ∃ m, mfind n es k = some m ∧ (m = none → es' = es ++ [(k, v)]) ∧ ∀ j, m = some j → es' = es.set j (k, v) ∧ ∃ e, es[j]? = some e ∧ keyEq n k e.1 = some true
  | [], es', h => by obtain rfl := Option.some.inj h; exact ⟨none, rfl, fun _ => rfl, fun j h => by cases h⟩
  | e :: es, es', h => by
    simp only [mset] at h
    simp only [mfind]
    split at h
    · rename_i b hb
      cases b with
      | true =>
        simp only [cond_true] at h
        obtain rfl := Option.some.inj h
        exact ⟨some 0, by rw [hb]; rfl, fun h => (by cases h), fun j h => by obtain rfl := Option.some.inj h; exact ⟨rfl, e, rfl, hb⟩⟩
      | false =>
        simp only [cond_false] at h
        split at h
        · rename_i l hl
          obtain rfl := Option.some.inj h
          obtain ⟨m, g1, g2, g3⟩ := mset_find hl
          refine ⟨m.map (· + 1), by rw [hb]; simp [g1], fun h => by rw [g2 (by simpa using h)]; rfl, fun j h => ?_⟩
          cases m with
          | none => cases h
          | some j' =>
            obtain rfl := Option.some.inj h
            obtain ⟨q1, e', q2, q3⟩ := g3 j' rfl
            exact ⟨by rw [q1]; rfl, e', by simpa using q2, q3⟩
        · cases h
    · cases h

section
variable {P : Program}

theorem same_cells : ∀ {l : List BK} {cs ds : List PV} {M : Mem} {us vs : List Value}, eqCells l cs ds = some true → CR M cs us → CR M ds vs → ∀ (i : Nat) u v, us[i]? = some u → vs[i]? = some v → ∀ d, Instr.sameBits d v u = true
  | [], cs, ds, M, us, vs, h, hu, hv, i, u, v, h1, h2, d => by
    obtain ⟨l1, l2⟩ := eqCells_len h
    rw [List.getElem?_eq_none (by rw [hu.1, l1]; simp)] at h1; cases h1
  | b :: l, cs, ds, M, us, vs, h, hu, hv, i, u, v, h1, h2, d => by
    have tl : ∀ {c : PV} {cs' : List PV} {ws : List Value}, CR M (c :: cs') ws → ∃ w ws', ws = w :: ws' ∧ PRep M c w ∧ CR M cs' ws' := by
      intro c cs' ws hw
      cases ws with
      | nil => have := hw.1; simp at this
      | cons w ws' => exact ⟨w, ws', rfl, hw.2 0 c w rfl rfl, by have := hw.1; simpa using this, fun i c v e1 e2 => hw.2 (i + 1) c v (by simpa using e1) (by simpa using e2)⟩
    have hd : ∃ p cs' q ds', cs = p :: cs' ∧ ds = q :: ds' ∧ eqCells l cs' ds' = some true ∧ ∀ u v, PRep M p u → PRep M q v → ∀ d, Instr.sameBits d v u = true := by
      cases cs with
      | nil => cases b <;> simp [eqCells] at h
      | cons p cs' =>
        cases ds with
        | nil => cases b <;> cases p <;> simp [eqCells] at h
        | cons q ds' =>
          refine ⟨p, cs', q, ds', rfl, rfl, ?_⟩
          cases b <;> cases p <;> first | (simp [eqCells] at h; done) | skip
          all_goals (cases q <;> first | (simp [eqCells] at h; done) | skip)
          all_goals simp only [eqCells] at h
          · rename_i k x k' y
            cases hk : decide (k = k') with
            | false => rw [hk] at h; cases h
            | true =>
              rw [hk] at h
              simp only [cond_true] at h
              have hk' := of_decide_eq_true hk
              subst hk'
              split at h
              · rename_i r2 h2
                have e := Option.some.inj h
                simp only [Bool.and_eq_true, beq_iff_eq] at e
                obtain ⟨rfl, rfl⟩ := e
                refine ⟨h2, fun u v e1 e2 d => ?_⟩
                cases rep_int e1; cases rep_int e2
                cases d <;> simp [Instr.sameBits]
              · cases h
          · split at h
            · rename_i r2 h2
              have e := Option.some.inj h
              simp only [Bool.and_eq_true, beq_iff_eq] at e
              obtain ⟨rfl, rfl⟩ := e
              refine ⟨h2, fun u v e1 e2 d => ?_⟩
              cases rep_bool e1; cases rep_bool e2
              cases d <;> simp [Instr.sameBits]
            · cases h
          · split at h
            · rename_i r2 h2
              have e := Option.some.inj h
              simp only [Bool.and_eq_true, beq_iff_eq] at e
              obtain ⟨rfl, rfl⟩ := e
              refine ⟨h2, fun u v e1 e2 d => ?_⟩
              cases rep_str e1; cases rep_str e2
              cases d <;> simp [Instr.sameBits, beq_mkStr]
            · cases h
    obtain ⟨p, cs', q, ds', rfl, rfl, g1, g2⟩ := hd
    obtain ⟨u0, us', rfl, k1, k2⟩ := tl hu
    obtain ⟨v0, vs', rfl, k3, k4⟩ := tl hv
    cases i with
    | zero => simp at h1 h2; subst h1; subst h2; exact g2 _ _ k1 k3 d
    | succ i => exact same_cells g1 k2 k4 i u v (by simpa using h1) (by simpa using h2) d

theorem same_agg {l : List BK} {cs ds : List PV} {M : Mem} {us vs : List Value} (h : eqCells l cs ds = some true) (hu : CR M cs us) (hv : CR M ds vs) (d : Nat) : Instr.sameBits (d + 1) (.agg vs.toArray) (.agg us.toArray) = true := by
  obtain ⟨l1, l2⟩ := eqCells_len h
  simp only [Instr.sameBits, Bool.and_eq_true, List.all_eq_true]
  refine ⟨by simp [hu.1, hv.1, l1, l2], fun x hx => ?_⟩
  obtain ⟨i, hi, rfl⟩ := List.mem_iff_getElem.1 hx
  simp only [List.getElem_zip]
  have h1 : i < vs.length := by simp at hi; omega
  have h2 : i < us.length := by simp at hi; omega
  exact same_cells h hu hv i _ _ (by simp [List.getElem?_eq_getElem h2]) (by simp [List.getElem?_eq_getElem h1]) d

/-- Keys are compared. -/
theorem key_run {kt : TypeId} {n : KT} (hk : KTok P kt n) {M : Mem} {p q : PV} {u v : Value} (hp : PRep M p u) (hq : PRep M q v) {b : Bool} (h : keyEq n p q = some b) (w : World) : (Op.equal kt u v).run P w = .ok b w ∧ (b = true → Instr.sameBits 10000 v u = true) := by
  cases n with
  | one bk =>
    have hk' : bkT P kt = some bk := hk
    have h' : eqCells [bk] [p] [q] = some b := by
      cases bk <;> cases p <;> first | (simp [keyEq] at h; done) | skip
      all_goals (cases q <;> first | (simp [keyEq] at h; done) | skip)
      · rename_i k x k' y
        simp only [keyEq] at h
        simp only [eqCells]
        cases hkk : decide (k = k') with
        | false => rw [hkk] at h; cases h
        | true => rw [hkk] at h; simp only [cond_true] at h ⊢; obtain rfl := Option.some.inj h; simp
      · simp only [keyEq] at h
        simp only [eqCells]
        obtain rfl := Option.some.inj h
        simp
    obtain ⟨p', cs', q', ds', r1, r2, e1, e2, e3, e4, e5⟩ := eq_cell hk' h'
    simp only [List.cons.injEq] at e1 e2
    obtain ⟨rfl, rfl⟩ := e1
    obtain ⟨rfl, rfl⟩ := e2
    simp only [eqCells, Option.some.injEq] at e4
    subst e4
    simp only [Bool.and_true] at e3
    subst e3
    obtain ⟨g1, _⟩ := e5 M u v w 9999 hp hq
    obtain ⟨_, g2⟩ := e5 M u v w 10000 hp hq
    exact ⟨g1, g2⟩
  | agg l =>
    cases p <;> first | (simp [keyEq] at h; done) | skip
    cases q <;> first | (simp [keyEq] at h; done) | skip
    simp only [keyEq] at h
    refine ⟨run_equal_agg hk hp hq h w, fun e => ?_⟩
    subst e
    obtain ⟨us, rfl, c1⟩ := rep_agg hp
    obtain ⟨vs, rfl, c2⟩ := rep_agg hq
    exact same_agg h c1 c2 9999

theorem find_asking {kt : TypeId} {n : KT} (hk : KTok P kt n) {M : Mem} {p : PV} {u : Value} (hp : PRep M p u) (w : World) : ∀ {es : List (PV × PV)} {en : List MapEntry} {m : Option Nat} (i : Nat), en.length = es.length → (∀ (i : Nat) e x, es[i]? = some e → en[i]? = some x → PRep M e.1 x.key ∧ PRep M e.2 x.val) →
    mfind n es p = some m → (Instr.findAsking kt u en i).run P w = .ok (m.bind fun j => (en[j]?).map fun x => (i + j, x.val)) w
  | [], en, m, i, hl, hr, h => by
    obtain rfl := Option.some.inj h
    cases en with
    | nil => simp [Instr.findAsking]
    | cons x en => simp at hl
  | e :: es, en, m, i, hl, hr, h => by
    cases en with
    | nil => simp at hl
    | cons x en =>
      simp only [mfind] at h
      split at h
      · rename_i b hb
        obtain ⟨g1, _⟩ := key_run hk hp (hr 0 e x rfl rfl).1 hb w
        simp only [Instr.findAsking, Sem.run_bind, g1, Result.andThen_ok]
        cases b with
        | true =>
          simp only [cond_true] at h
          obtain rfl := Option.some.inj h
          simp
        | false =>
          simp only [cond_false] at h
          cases hm : mfind n es p with
          | none => rw [hm] at h; cases h
          | some m' =>
            rw [hm] at h
            obtain rfl := Option.some.inj h
            have := find_asking hk hp w (i + 1) (by simpa using hl) (fun i e x h1 h2 => hr (i + 1) e x (by simpa using h1) (by simpa using h2)) hm
            simp only [Bool.false_eq_true, if_false, this]
            cases m' with
            | none => rfl
            | some j => simp [Nat.add_assoc, Nat.add_comm 1 j]
      · cases h

theorem find_now {kt : TypeId} {bk : BK} {d : TypeDesc} (hk : bkT P kt = some bk) (hd : P.underlying kt = some d) {M : Mem} {p : PV} {u : Value} (hp : PRep M p u) : ∀ {es : List (PV × PV)} {en : List MapEntry} {m : Option Nat} (i : Nat), en.length = es.length → (∀ (i : Nat) e x, es[i]? = some e → en[i]? = some x → PRep M e.1 x.key ∧ PRep M e.2 x.val) →
    mfind (.one bk) es p = some m → Instr.findNow d u en i = some (m.bind fun j => (en[j]?).map fun x => (i + j, x.val))
  | [], en, m, i, hl, hr, h => by
    obtain rfl := Option.some.inj h
    cases en with
    | nil => simp [Instr.findNow]
    | cons x en => simp at hl
  | e :: es, en, m, i, hl, hr, h => by
    cases en with
    | nil => simp at hl
    | cons x en =>
      simp only [mfind] at h
      split at h
      · rename_i b hb
        have hx := (hr 0 e x rfl rfl).1
        have g1 : Instr.sameNow d u x.key = some b := by
          obtain ⟨i', q1, q2, q3⟩ := bkT_eq hk
          cases bk with
          | int =>
            generalize e.1 = q at hb hx
            cases p <;> first | (simp [keyEq] at hb; done) | skip
            cases q <;> first | (simp [keyEq] at hb; done) | skip
            rename_i k x' k' y
            simp only [keyEq] at hb
            cases hkk : decide (k = k') with
            | false => rw [hkk] at hb; cases hb
            | true =>
              rw [hkk] at hb
              simp only [cond_true] at hb
              obtain rfl := Option.some.inj hb
              have hkk' := of_decide_eq_true hkk
              subst hkk'
              rw [rep_int hp, rep_int hx]
              rcases q3 with ⟨⟨k2, q3⟩, _⟩ | ⟨_, e⟩ | ⟨_, e⟩ <;> first | cases e | skip
              rw [hd] at q3
              obtain rfl := Option.some.inj q3
              simp [Instr.sameNow]
          | bool => generalize e.1 = q at hb; cases p <;> cases q <;> simp [keyEq] at hb
          | str =>
            generalize e.1 = q at hb hx
            cases p <;> first | (simp [keyEq] at hb; done) | skip
            cases q <;> first | (simp [keyEq] at hb; done) | skip
            simp only [keyEq] at hb
            obtain rfl := Option.some.inj hb
            rw [rep_str hp, rep_str hx]
            rcases q3 with ⟨_, e⟩ | ⟨_, e⟩ | ⟨q3, _⟩ <;> first | cases e | skip
            rw [hd] at q3
            obtain rfl := Option.some.inj q3
            simp only [Instr.sameNow, beq_mkStr]
        simp only [Instr.findNow, g1]
        cases b with
        | true =>
          simp only [cond_true] at h
          obtain rfl := Option.some.inj h
          simp
        | false =>
          simp only [cond_false] at h
          cases hm : mfind (.one bk) es p with
          | none => rw [hm] at h; cases h
          | some m' =>
            rw [hm] at h
            obtain rfl := Option.some.inj h
            have := find_now hk hd hp (i + 1) (by simpa using hl) (fun i e x h1 h2 => hr (i + 1) e x (by simpa using h1) (by simpa using h2)) hm
            simp only [this]
            cases m' with
            | none => rfl
            | some j => simp [Nat.add_assoc, Nat.add_comm 1 j]
      · cases h

theorem run_find {kt : TypeId} {n : KT} (hk : KTok P kt n) {M : Mem} {p : PV} {u : Value} (hp : PRep M p u) {es : List (PV × PV)} {en : Array MapEntry} (hM : MRel M es en) {m : Option Nat} (h : mfind n es p = some m) (w : World) :
    (Instr.findKey kt u en.toList).run P w = .ok (m.bind fun j => (en[j]?).map fun x => (j, x.val)) w := by
  have hl : en.toList.length = es.length := by simpa using hM.1
  have hr : ∀ (i : Nat) e x, es[i]? = some e → en.toList[i]? = some x → PRep M e.1 x.key ∧ PRep M e.2 x.val := fun i e x h1 h2 => hM.2 i e x h1 (by simpa using h2)
  cases n with
  | one bk =>
    have hk' : bkT P kt = some bk := hk
    obtain ⟨i', q1, q2, q3⟩ := bkT_eq hk'
    obtain ⟨d, hd⟩ : ∃ d, P.underlying kt = some d := by
      rcases q3 with ⟨⟨k2, q3⟩, _⟩ | ⟨q3, _⟩ | ⟨q3, _⟩ <;> exact ⟨_, q3⟩
    have := find_now hk' hd hp 0 hl hr h
    simp [Instr.findKey, run_underlying hd, this]
  | agg l =>
    have hk' : aggT P kt = some l := hk
    rw [run_findKey_eq w (k := kt) ?_]
    · rw [find_asking hk hp w 0 hl hr h]
      simp
    · rcases aggT_eq hk' with ⟨fs, h1, _⟩ | ⟨n, e, b, h1, _⟩ <;> simp [h1]

theorem run_check {kt : TypeId} {n : KT} (hk : KTok P kt n) {M : Mem} {p : PV} {u : Value} (hp : PRep M p u) (h : keyOk n p = true) (em : Bool) (w : World) : (Instr.checkKey em 10000 kt u).run P w = .ok () w := by
  cases n with
  | one bk => exact check_bk hk em 9999 u w
  | agg l =>
    cases p <;> first | (simp [keyOk] at h; done) | skip
    obtain ⟨us, rfl, c1⟩ := rep_agg hp
    exact run_check_agg hk (c1.1.trans (beq_eq h)) em w 9998
end

theorem get_map {P : Program} {w : World} {r : Nat} {es : Array MapEntry} {ck : Nat} (hb : w.heap[r]? = some (.map es ck)) : (getObj r).run P w = .ok (.map es ck) w := by simp [getObj, Sem.run, hb]
theorem set_map {P : Program} {w : World} {r : Nat} {es : Array MapEntry} {ck : Nat} (o : Obj) (hb : w.heap[r]? = some (.map es ck)) : (setObj r o).run P w = .ok () { w with heap := w.heap.setIfInBounds r o } := by simp [setObj, Sem.run, hb]

section
variable {P : Program} {E : Env} {av : Av} {ty : TypeId} {s : St}

theorem s_makeMap {t : TypeId} : Sound2 P (.makeMap t none) ty av s (.mp s.bx.length) { s with bx := s.bx ++ [(false, [.ment []])] } := by
  intro F w0 M0 G a w o hS hA ho _
  obtain ⟨G', k1, k2, k3⟩ := hS.newMap
  refine OpTo.value (u := .map (some w.heap.size)) (w' := w.alloc (.map #[] 0)) ?_ ⟨G', k1, k2, k3⟩
  simp [execOp, ho, Instr.makeMap]

theorem s_lookup (hT : TOk P) {t e : TypeId} {n : KT} {y x : Operand} {i : Nat} {k z : PV} {zf : Bool} {es : List (PV × PV)} {o' : Option PV} {ok : Bool} (hm : mapT P t = some (n, e)) (hy : av y = some (.mp i)) (hx : av x = some (.pv k)) (hi : s.bx[i]? = some (zf, [.ment es])) (hz : zeroPV P e = some z)
    (hk : keyOk n k = true) (hg : mget n es k = some o') (hfit : (shOf P e).fits (o'.getD z.weak) = true) :
    Sound0 P (.lookup t y x ok) ty av s (bif ok then .pv (.tup [(shOf P e).view (o'.getD z.weak), .bool o'.isSome]) else .pv ((shOf P e).view (o'.getD z.weak))) := by
  intro F w0 M0 G a w o hS hA ho _
  obtain ⟨kt, hu, hkt⟩ := mapT_eq hm
  obtain ⟨_, b, hb, e1⟩ := hA y _ hy
  have hp : PRep G.M k (a.eval x) := hA x _ hx
  obtain ⟨p1, p2, p3, ob, p4, p0⟩ := hS.bx i zf _ b hi hb
  obtain ⟨en, ck, rfl, hM⟩ := p0.map
  obtain ⟨m, g1, g2, g3⟩ := mget_find hg
  have hf := run_find hkt hp hM g1 w
  have hc := run_check hkt hp hk en.isEmpty w
  obtain ⟨ti, zv, h1, h2, h3, h4, h5⟩ := run_zeroPV hT hz w
  rw [Sh.view_eq _ _ hfit]
  have key : ∃ v : Value, (execOp a.eval o).run P w = .ok (.value (if ok then .tuple #[v, .bool o'.isSome] else v)) w ∧ PRep G.M (o'.getD z.weak) v := by
    cases m with
    | none =>
      have := g2 rfl
      subst this
      simp only [Option.bind_none] at hf
      refine ⟨zv, ?_, (ofConst_rep h4).weak⟩
      simp only [execOp, ho, Instr.lookup, Sem.run_bind, run_underlying hu, Result.andThen_ok, e1, get_map p4, hc, hf, h3, Sem.run_pure]
      cases ok <;> rfl
    | some j =>
      obtain ⟨e', q1, rfl⟩ := g3 j rfl
      have hj : j < en.size := by rw [hM.1]; exact (List.getElem?_eq_some_iff.1 q1).1
      have := (hM.2 j e' en[j] q1 (Array.getElem?_eq_getElem hj)).2
      simp only [Option.bind_some, Array.getElem?_eq_getElem hj, Option.map_some] at hf
      refine ⟨en[j].val, ?_, this⟩
      simp only [execOp, ho, Instr.lookup, Sem.run_bind, run_underlying hu, Result.andThen_ok, e1, get_map p4, hc, hf, Sem.run_pure]
      cases ok <;> rfl
  obtain ⟨v, q1, q2⟩ := key
  refine ⟨_, q1, ?_⟩
  cases ok with
  | false => exact q2
  | true =>
    refine PRep.tup _ [v, .bool o'.isSome] rfl fun i c u h1 h2 => ?_
    match i with
    | 0 => simp at h1 h2; subst h1; subst h2; exact q2
    | 1 => simp at h1 h2; subst h1; subst h2; exact .bool _
    | i + 2 => simp at h1

theorem s_mapUpdate {t e : TypeId} {n : KT} {y x q : Operand} {i : Nat} {k v : PV} {b : AV} {es es' : List (PV × PV)} (hm : mapT P t = some (n, e)) (hy : av y = some (.mp i)) (hx : av x = some (.pv k)) (hq : av q = some b) (hv : b.toPV = some v) (hi : s.bx[i]? = some (false, [.ment es]))
    (hk : keyOk n k = true) (hg : mset n es k v = some es') {op : Op} (hop : op = .mapUpdate t y x q ∨ op = .insert t y x q) : Sound2 P op ty av s .undef { s with bx := s.bx.set i (false, [.ment es']) } := by
  intro F w0 M0 G a w o hS hA ho _
  obtain ⟨kt, hu, hkt⟩ := mapT_eq hm
  obtain ⟨_, bl, hb, e1⟩ := hA y _ hy
  have hp : PRep G.M k (a.eval x) := hA x _ hx
  have hvv : PRep G.M v (a.eval q) := toPV_rel (hA q _ hq) hv
  obtain ⟨p1, p2, p3, ob, p4, p0⟩ := hS.bx i false _ bl hi hb
  obtain ⟨en, ck, rfl, hM⟩ := p0.map
  obtain ⟨m, g1, g2, g3⟩ := mset_find hg
  have hf := run_find hkt hp hM g1 w
  have hc := run_check hkt hp hk false w
  have key : ∃ en' ck', (Instr.mapUpdate t (a.eval y) (a.eval x) (a.eval q)).run P w = .ok () { w with heap := w.heap.setIfInBounds bl (.map en' ck') } ∧ MRel G.M es' en' := by
    cases m with
    | none =>
      obtain rfl := g2 rfl
      refine ⟨en.push { key := a.eval x, val := a.eval q, born := ck }, ck + 1, ?_, by simp [hM.1], fun j e' z h1 h2 => ?_⟩
      · simp only [Instr.mapUpdate, Sem.run_bind, run_underlying hu, Result.andThen_ok, e1, get_map p4, hc, hf, Option.bind_none, set_map _ p4]
      · by_cases hj : j < es.length
        · rw [List.getElem?_append_left hj] at h1
          rw [Array.getElem?_push, if_neg (by have := hM.1; omega)] at h2
          exact hM.2 j e' z h1 h2
        · have hjl : j < (es ++ [(k, v)]).length := (List.getElem?_eq_some_iff.1 h1).1
          have hj' : j = es.length := by simp at hjl; omega
          subst hj'
          simp at h1
          rw [← hM.1] at h2
          simp at h2
          subst h1; subst h2
          exact ⟨hp, hvv⟩
    | some j =>
      obtain ⟨rfl, e', q1, q2⟩ := g3 j rfl
      have hj : j < en.size := by rw [hM.1]; exact (List.getElem?_eq_some_iff.1 q1).1
      have hj2 : j < es.length := by rw [← hM.1]; exact hj
      have hold := (hM.2 j e' en[j] q1 (Array.getElem?_eq_getElem hj)).1
      have hsame := (key_run hkt hp hold q2 w).2 rfl
      refine ⟨en.modify j fun e => { e with key := a.eval x, val := a.eval q }, ck, ?_, by simp [hM.1], fun i' e2 z h1 h2 => ?_⟩
      · simp only [Instr.mapUpdate, Sem.run_bind, run_underlying hu, Result.andThen_ok, e1, get_map p4, hc, hf, Option.bind_some, Array.getElem?_eq_getElem hj, Option.map_some, Option.getD_some, Instr.keyThatStays, hsame, if_true, Sem.run_pure, set_map _ p4]
      · rw [Array.getElem?_modify] at h2
        by_cases hji : j = i'
        · subst hji
          rw [List.getElem?_set_self hj2] at h1
          rw [if_pos rfl, Array.getElem?_eq_getElem hj] at h2
          obtain rfl := Option.some.inj h1
          obtain rfl := Option.some.inj h2
          exact ⟨hp, hvv⟩
        · rw [List.getElem?_set_ne hji] at h1
          rw [if_neg hji] at h2
          exact hM.2 i' e2 z h1 h2
  obtain ⟨en', ck', r1, r2⟩ := key
  obtain ⟨k1, k2⟩ := hS.updObj hi hb rfl (.inr ⟨es', en', ck', rfl, rfl, r2⟩)
  refine OpTo.skip ?_ ⟨G, k1, k2, rfl⟩
  rcases hop with rfl | rfl <;> (simp only [execOp, ho, Sem.run_bind, r1, Result.andThen_ok]; rfl)
end
end Go.AL
