/- Operations on the store: loads, stores, new boxes. -/
import Derived.Test.YtlmodlihiglnhaaALs
set_option linter.unusedVariables false
set_option linter.unusedSimpArgs false
namespace Go.AL
open Go.RowKit

/-- The operation, at a state whose operands are related and whose store is s, leaves this value and this store. -/
def Sound2 (P : Program) (op : Op) (ty : TypeId) (av : Av) (s : St) (v : AV) (s' : St) : Prop :=
  ∀ (F : Nat → Prop) (w0 : World) (M0 : Mem) (G : Gh) (a : Act) (w : World) (o : Oper), SRel F w0 M0 G s w → Avs av G s a → o.op = op → o.type = ty →
    OpTo P o a w fun u w' => ∃ G', SRel F w0 M0 G' s' w' ∧ Ext G s G' s' ∧ ARel G' s' v u

theorem Sound1.two {P : Program} {op : Op} {ty : TypeId} {av : Av} {v : AV} (h : Sound1 P op ty av v) (s : St) : Sound2 P op ty av s v s :=
  fun F w0 M0 G a w o hS hA ho ht => h F w0 M0 G s a w o hS hA ho ht

/-- The same, where nothing is changed at all. -/
def Sound0 (P : Program) (op : Op) (ty : TypeId) (av : Av) (s : St) (v : AV) : Prop :=
  ∀ (F : Nat → Prop) (w0 : World) (M0 : Mem) (G : Gh) (a : Act) (w : World) (o : Oper), SRel F w0 M0 G s w → Avs av G s a → o.op = op → o.type = ty →
    ∃ z, (execOp a.eval o).run P w = .ok (.value z) w ∧ ARel G s v z
theorem Sound0.two {P : Program} {op : Op} {ty : TypeId} {av : Av} {s : St} {v : AV} (h : Sound0 P op ty av s v) : Sound2 P op ty av s v s := by
  intro F w0 M0 G a w o hS hA ho ht
  obtain ⟨z, h1, h2⟩ := h F w0 M0 G a w o hS hA ho ht
  exact OpTo.value h1 ⟨G, hS, Ext.refl _ _, h2⟩

theorem setAt_get {α : Type} (us : List α) : ∀ (cs : List α) (off k : Nat), off + us.length ≤ cs.length → (setAt cs off us)[k]? = if off ≤ k ∧ k < off + us.length then us[k - off]? else cs[k]? := by
  induction us with
  | nil => intro cs off k h; simp [setAt]; intro h1 h2; omega
  | cons u us ih =>
    intro cs off k h
    simp only [setAt]
    rw [ih (cs.set off u) (off + 1) k (by simpa using (by simpa using h : off + (us.length + 1) ≤ cs.length) |> fun h => by omega)]
    simp only [List.length_cons] at h ⊢
    by_cases h1 : off + 1 ≤ k ∧ k < off + 1 + us.length
    · rw [if_pos h1, if_pos (by omega), show k - off = (k - (off + 1)) + 1 by omega, List.getElem?_cons_succ]
    · rw [if_neg h1]
      by_cases h2 : k = off
      · subst h2
        rw [if_pos (by omega), List.getElem?_set_self (by omega)]
        simp
      · rw [if_neg (by omega), List.getElem?_set_ne (by omega)]

section
variable {P : Program} {ty : TypeId} {av : Av} {s : St}

theorem cellsAV_rel {G : Gh} {b : AV} {u : Value} {vs : List AV} (h : ARel G s b u) (hc : b.cellsAV = some vs) : u.cells.toList.length = vs.length ∧ ∀ (k : Nat) c x, vs[k]? = some c → u.cells.toList[k]? = some x → ARel G s c x := by
  have single : ∀ {c : AV}, ARel G s c u → u.oneCell' = true → b.cellsAV = some [c] → u.cells.toList.length = vs.length ∧ ∀ (k : Nat) c x, vs[k]? = some c → u.cells.toList[k]? = some x → ARel G s c x := by
    intro c hr ho e
    rw [hc] at e
    obtain rfl := Option.some.inj e
    have hu : u.cells.toList = [u] := by cases u <;> simp [Value.cells, Value.oneCell'] at ho ⊢
    rw [hu]
    refine ⟨rfl, fun k c' x h1 h2 => ?_⟩
    cases k with
    | zero => simp at h1 h2; subst h1; subst h2; exact hr
    | succ k => simp at h1
  cases b with
  | pv p =>
    have hp : ∀ cs, p ≠ .tup cs := by rintro cs rfl; cases hc
    obtain ⟨g1, g2, g3⟩ := PRep.cells h hp
    have hvs : vs = p.cells.map .pv := by
      cases p <;> simp [AV.cellsAV] at hc <;> subst hc <;> rfl
    subst hvs
    refine ⟨by simpa using g1, fun k c x h1 h2 => ?_⟩
    rw [List.getElem?_map] at h1
    cases hk : p.cells[k]? with
    | none => rw [hk] at h1; cases h1
    | some q => rw [hk] at h1; obtain rfl := Option.some.inj h1; exact g3 k q x hk h2
  | box i off => exact single h (ARel.oneCell h rfl) rfl
  | vec i ver => exact single h (ARel.oneCell h rfl) rfl
  | elt i ver j k => exact single h (ARel.oneCell h rfl) rfl
  | bld i e xs => exact single h (ARel.oneCell h rfl) rfl
  | agg cs =>
    obtain rfl := Option.some.inj hc
    obtain ⟨us, rfl, hl, hr⟩ := h
    exact ⟨by simpa [Value.cells] using hl, fun k c x h1 h2 => .of1 (hr k c x h1 (by simpa [Value.cells] using h2)).1⟩
  | undef => cases hc
  | any => cases hc

theorem cellsAV_one {G : Gh} {b : AV} {u : Value} {vs : List AV} (h : ARel G s b u) (hc : b.cellsAV = some vs) (ha : vs.all AV.cell = true) : ∀ x, x ∈ u.cells.toList → x.oneCell' = true := by
  obtain ⟨g1, g2⟩ := cellsAV_rel h hc
  intro x hx
  obtain ⟨k, hk, rfl⟩ := List.mem_iff_getElem.1 hx
  have hk2 : k < vs.length := by omega
  exact (g2 k vs[k] _ (List.getElem?_eq_getElem hk2) (List.getElem?_eq_getElem hk)).oneCell (List.all_eq_true.1 ha _ (List.getElem_mem hk2))

/-! ### New boxes -/
theorem s_box {t : TypeId} {y : Operand} {b : AV} {cs : List AV} (hy : av y = some b) (hc : b.cellsAV = some cs) (ha : cs.all AV.cell = true) :
    Sound2 P (.box t y) ty av s (.box s.bx.length 0) { s with bx := s.bx ++ [(false, cs)] } := by
  intro F w0 M0 G a w o hS hA ho _
  have hr := hA y b hy
  obtain ⟨g1, g2⟩ := cellsAV_rel hr hc
  have g3 := cellsAV_one hr hc ha
  obtain ⟨G', k1, k2, k3⟩ := hS.newBox t (cs := cs) (vs := (a.eval y).cells) (by simpa using g1) (fun k c v h1 h2 => ⟨g2 k c v h1 (by simpa using h2), g3 v (by
    have := List.mem_of_getElem? (l := (a.eval y).cells.toList) (i := k) (a := v) (by simpa using h2); exact this)⟩)
  exact OpTo.value (u := .pointer (some ⟨w.heap.size, 0, none⟩)) (w' := w.alloc (.cells (a.eval y).cells t)) (by simp [execOp, ho, Instr.box, newVar, newRow]) ⟨G', k1, k2, k3⟩

theorem run_alloc (hT : TOk P) {t : TypeId} {ps : List PV} (h : zeroCells P t = some ps) (w : World) {a : Act} {o : Oper} (ho : o.op = .alloc t) :
    ∃ z : Value, (execOp a.eval o).run P w = .ok (.value (.pointer (some ⟨w.heap.size, 0, none⟩))) (w.alloc (.cells z.cells t)) ∧ z.cells.size = ps.length ∧
      ∀ (M : Mem) (i : Nat) p v, ps[i]? = some p → z.cells[i]? = some v → PRep M p v ∧ v.oneCell' = true := by
  obtain ⟨i, z, h1, h2, h3, h4, h5⟩ := run_zero hT h w
  refine ⟨z, by simp [execOp, ho, Instr.alloc, h3, newVar, newRow], ?_, fun M k p v e1 e2 => ?_⟩
  · have := (CRel.of_cells (M := fun _ => none) h4).1; simpa using this
  · have := (ofCells_rep (M := M) h4).2 k p v e1 (by simpa using e2)
    exact ⟨this.1, this.2.2⟩

theorem s_alloc (hT : TOk P) {t : TypeId} {ps : List PV} (h : zeroCells P t = some ps) : Sound2 P (.alloc t) ty av s (.box s.bx.length 0) { s with bx := s.bx ++ [(false, ps.map .pv)] } := by
  intro F w0 M0 G a w o hS hA ho _
  obtain ⟨z, h1, h2, h3⟩ := run_alloc hT h w (a := a) ho
  obtain ⟨G', k1, k2, k3⟩ := hS.newBox t (cs := ps.map .pv) (vs := z.cells) (by simpa using h2) (fun k c v e1 e2 => by
    rw [List.getElem?_map] at e1
    cases hk : ps[k]? with
    | none => rw [hk] at e1; cases e1
    | some q => rw [hk] at e1; obtain rfl := Option.some.inj e1; exact h3 G.M k q v hk e2)
  exact OpTo.value h1 ⟨G', k1, k2, k3⟩

/-! ### Loads -/
theorem run_load_agg (hT : TOk P) {t : TypeId} {z : PV} (hz : zeroPV P t = some z) {n : Nat} (hn : (shOf P t).isAgg = some n) {a : Act} {o : Oper} {y : Operand} (ho : o.op = .load t y) {ad : Addr} (hy : a.eval y = .pointer (some ad)) {w : World} {cs : List Value} (hl : cs.length = n)
    (h : ∀ j v, cs[j]? = some v → w.cell? (ad.add j) = some v) : (execOp a.eval o).run P w = .ok (.value (.agg cs.toArray)) w := by
  obtain ⟨l, hl', rfl⟩ := isAgg_some hn
  obtain ⟨i, d, hi, hsz, hu, hd, _⟩ := shOf_agg hT hl'
  have := run_loadCells_list (P := P) w ad cs h
  rw [hl] at this
  simp [execOp, ho, Instr.loadAt, hy, Instr.sureAddr, loadVar, run_isAgg_true hu hd, run_sizeOf' hi, hsz, this]

theorem run_load_one (hT : TOk P) {t : TypeId} {z : PV} (hz : zeroPV P t = some z) (hn : (shOf P t).isAgg = none) {a : Act} {o : Oper} {y : Operand} (ho : o.op = .load t y) {ad : Addr} (hy : a.eval y = .pointer (some ad)) {w : World} {v : Value}
    (h : w.cell? ad = some v) : (execOp a.eval o).run P w = .ok (.value v) w := by
  obtain ⟨i, hi, zv, hzv⟩ := zero_size hT hz
  obtain ⟨i, d, hi, hsz, hu, hd1, hd2, _⟩ := shOf_one hT (isAgg_none hn) ⟨i, zv, hi, hzv⟩
  simp [execOp, ho, Instr.loadAt, hy, Instr.sureAddr, loadVar, run_isAgg_false hu hd1 hd2, h]

theorem s_load_ptr (hT : TOk P) {t : TypeId} {z : PV} (hz : zeroPV P t = some z) {y : Operand} {cs : List PV} (hy : av y = some (.pv (.ptr cs))) :
    (∀ n, (shOf P t).isAgg = some n → n ≤ cs.length → ∀ s, Sound0 P (.load t y) ty av s (.pv (.agg (cs.take n)))) ∧ (∀ c, (shOf P t).isAgg = none → cs[0]? = some c → ∀ s, Sound0 P (.load t y) ty av s (.pv c)) := by
  refine ⟨fun n hn hle s F w0 M0 G a w o hS hA ho _ => ?_, fun c hn hc s F w0 M0 G a w o hS hA ho _ => ?_⟩
  · have hM := hS.agree
    obtain ⟨ad, vs, e, g1, g2, g3⟩ := rep_ptr (hA y _ hy)
    refine ⟨.agg ((List.range n).map vs).toArray, run_load_agg hT hz hn ho e (by simp) (fun j v hj => ?_), .agg _ _ (by simp; omega) (fun x hx => g1 x (List.mem_of_mem_take hx)) fun i c v h1 h2 => ?_⟩
    · have hjn : j < n := by have := (List.getElem?_eq_some_iff.1 hj).1; simpa using this
      simp [hjn] at hj
      subst hj
      exact hM _ _ (g2 j cs[j] (List.getElem?_eq_getElem (by omega)))
    · have hin : i < n := by have := (List.getElem?_eq_some_iff.1 h2).1; simpa using this
      simp [hin] at h2
      subst h2
      exact g3 i c (by rw [List.getElem?_take_of_lt hin] at h1; exact h1)
  · have hM := hS.agree
    obtain ⟨ad, vs, e, g1, g2, g3⟩ := rep_ptr (hA y _ hy)
    have hc0 := hM _ _ (g2 0 c hc)
    rw [Addr.add_zero'] at hc0
    exact ⟨vs 0, run_load_one hT hz hn ho e hc0, g3 0 c hc⟩

theorem s_load_box (hT : TOk P) {t : TypeId} {z : PV} (hz : zeroPV P t = some z) {y : Operand} {i off : Nat} {zf : Bool} {cs : List AV} (hy : av y = some (.box i off)) (hi : s.bx[i]? = some (zf, cs)) :
    (∀ n ps, (shOf P t).isAgg = some n → off + n ≤ cs.length → toPVs ((cs.drop off).take n) = some ps → Sound0 P (.load t y) ty av s (.pv (.agg ps))) ∧ (∀ c, (shOf P t).isAgg = none → cs[off]? = some c → Sound0 P (.load t y) ty av s c) := by
  refine ⟨fun n ps hn hle hps => ?_, fun c hn hc => ?_⟩
  · intro F w0 M0 G a w o hS hA ho _
    obtain ⟨_, b, hb, e⟩ := hA y _ hy
    obtain ⟨p1, p2, p3, vs, T, p4, p5, p6⟩ := hS.bx i zf cs b hi hb
    have hcell : ∀ j v, ((vs.toList.drop off).take n)[j]? = some v → w.cell? ((⟨b, off, none⟩ : Addr).add j) = some v ∧ j < n ∧ vs[off + j]? = some v := by
      intro j v hj
      have hjn : j < n := by have := (List.getElem?_eq_some_iff.1 hj).1; simp at this; omega
      rw [List.getElem?_take_of_lt hjn, List.getElem?_drop] at hj
      refine ⟨?_, hjn, by simpa using hj⟩
      rw [Addr.add_lit]
      simp only [World.cell?, p4]
      simpa using hj
    refine ⟨_, run_load_agg hT hz hn ho e (by simp; omega) fun j v hj => (hcell j v hj).1, ?_⟩
    obtain ⟨q1, q2⟩ := toPVs_get hps
    refine .agg _ _ (by rw [q1]; simp; omega) (fun x hx => ?_) fun k c v h1 h2 => ?_
    · obtain ⟨k, hk, rfl⟩ := List.mem_iff_getElem.1 hx
      have hk2 : k < ((cs.drop off).take n).length := by rw [← q1]; exact hk
      obtain ⟨p, e1, e2⟩ := q2 k _ (List.getElem?_eq_getElem hk2)
      rw [List.getElem?_eq_getElem hk] at e1
      obtain rfl := Option.some.inj e1
      have hkn : k < n := by simp at hk2; omega
      have hcs : cs[off + k]? = some ((cs.drop off).take n)[k] := by
        have := List.getElem?_eq_getElem hk2
        rw [List.getElem?_take_of_lt hkn, List.getElem?_drop] at this
        exact this
      have hv : off + k < vs.size := by rw [p5]; exact (List.getElem?_eq_some_iff.1 hcs).1
      have := p6 (off + k) _ vs[off + k] hcs (Array.getElem?_eq_getElem hv)
      have hr := toPV_rel this.1 e2
      revert hr e2
      generalize ps[k] = p
      intro e2 hr
      have h1 := this.2
      generalize vs[off + k] = u at hr h1
      cases hr <;> first | rfl | (simp [Value.oneCell'] at h1)
    · obtain ⟨g1, g2, g3⟩ := hcell k v h2
      have hk2 : k < ((cs.drop off).take n).length := by rw [← q1]; exact (List.getElem?_eq_some_iff.1 h1).1
      obtain ⟨p, e1, e2⟩ := q2 k _ (List.getElem?_eq_getElem hk2)
      rw [h1] at e1
      obtain rfl := Option.some.inj e1
      have hcs : cs[off + k]? = some ((cs.drop off).take n)[k] := by
        have := List.getElem?_eq_getElem hk2
        rw [List.getElem?_take_of_lt g2, List.getElem?_drop] at this
        exact this
      exact toPV_rel (p6 (off + k) _ v hcs g3).1 e2
  · intro F w0 M0 G a w o hS hA ho _
    obtain ⟨_, b, hb, e⟩ := hA y _ hy
    obtain ⟨p1, p2, p3, vs, T, p4, p5, p6⟩ := hS.bx i zf cs b hi hb
    have hlt : off < vs.size := by rw [p5]; exact (List.getElem?_eq_some_iff.1 hc).1
    have hv : vs[off]? = some vs[off] := Array.getElem?_eq_getElem hlt
    refine ⟨_, run_load_one hT hz hn ho e (v := vs[off]) ?_, (p6 off c _ hc hv).1⟩
    simp only [World.cell?, p4]
    exact hv

theorem cl_get {x : PV} {o : Nat} (h : o < x.cells.length) : x.cells[o]? = some (x.cl o) := by
  cases x <;> simp [PV.cells, PV.cl] at h ⊢ <;> first | (subst h; rfl) | skip
  simp [h]

/-- Where an element of a vector lies. -/
theorem elt_at {F : Nat → Prop} {w0 : World} {M0 : Mem} {G : Gh} {w : World} (hS : SRel F w0 M0 G s w) {i ver j k sz : Nat} {xs : List PV} {x : PV} {u : Value} (hi : s.vc[i]? = some (some (ver, sz, xs))) (hr : ARel G s (.elt i ver j k) u) (hx : xs[j]? = some x) :
    ∃ b o cap vs T, u = .pointer (some ⟨b, o + (j * sz + k), none⟩) ∧ (G.ν i).A = some ⟨b, o, none⟩ ∧ (G.ν i).sz = sz ∧ (G.ν i).cap = cap ∧ G.own b = .vec i ∧ w.heap[b]? = some (.cells vs T (0, 0)) ∧ o + cap * sz ≤ vs.size ∧ xs.length ≤ cap ∧ 0 < sz ∧
      (∀ x, x ∈ xs → x.cells.length = sz ∧ ∀ y, y ∈ x.cells → y.one = true) ∧ ∀ j x k y, xs[j]? = some x → x.cells[k]? = some y → ∃ v, vs[o + (j * sz + k)]? = some v ∧ PRep G.M y v := by
  obtain ⟨_, _, h3⟩ := hr
  obtain ⟨ad, h4, h5⟩ := (h3 _ _ hi).2 rfl
  obtain ⟨⟨r0, r0'⟩, r1, r2⟩ := hS.vc i ver sz xs hi
  rcases r2 with ⟨g, _⟩ | ⟨b, o, vs, T, g1, g2, g3, g4, g5, g6⟩
  · rw [h4] at g; cases g
  · rw [h4] at g1
    obtain rfl := Option.some.inj g1
    subst r0
    exact ⟨b, o, _, vs, T, by rw [h5, Addr.add_lit], h4, rfl, rfl, g2, g3, g4, g5, r0', r1, g6⟩

theorem s_load_elt (hT : TOk P) {t : TypeId} {z : PV} (hz : zeroPV P t = some z) {y : Operand} {i ver j k sz : Nat} {xs : List PV} {x : PV} (hy : av y = some (.elt i ver j k)) (hi : s.vc[i]? = some (some (ver, sz, xs))) (hx : xs[j]? = some x) :
    (∀ n, (shOf P t).isAgg = some n → k = 0 → (shOf P t).fits x = true → Sound0 P (.load t y) ty av s (.pv x)) ∧ ((shOf P t).isAgg = none → k < x.cells.length → Sound0 P (.load t y) ty av s (.pv (x.cl k))) := by
  refine ⟨fun n hn hk hf => ?_, fun hn hk => ?_⟩
  · intro F w0 M0 G a w o hS hA ho _
    subst hk
    obtain ⟨b, off, cap, vs, T, e, _, _, _, _, q1, q2, q3, q4, q5, q6⟩ := elt_at hS hi (hA y _ hy) hx
    have hfit := cells_of_fits hT hf (by obtain ⟨i, hi, zv, hzv⟩ := zero_size hT hz; exact ⟨i, zv, hi, hzv⟩)
    obtain ⟨l, hl, rfl⟩ := isAgg_some hn
    obtain ⟨cs, rfl⟩ : ∃ cs, x = .agg cs := by rw [hl] at hf; cases x <;> simp [Sh.fits] at hf; exact ⟨_, rfl⟩
    have hlen : cs.length = l.length := by rw [hl] at hf; exact fitsL_len (by simpa [Sh.fits] using hf)
    let us := cs.zipIdx.map fun c => vs.getD (off + (j * sz + c.2)) undef
    have hg : ∀ k c, cs[k]? = some c → vs[off + (j * sz + k)]? = some (vs.getD (off + (j * sz + k)) undef) ∧ PRep G.M c (vs.getD (off + (j * sz + k)) undef) := by
      intro k c hk
      obtain ⟨v, e1, e2⟩ := q6 j _ k c hx hk
      have : vs.getD (off + (j * sz + k)) undef = v := by
        have hlt := (Array.getElem?_eq_some_iff.1 e1).1
        simp [Array.getD, hlt]; simpa [hlt] using e1
      rw [this]; exact ⟨e1, e2⟩
    refine ⟨_, run_load_agg hT hz hn ho e (cs := us) (by simp [us, hlen]) fun k v hk => ?_, .agg cs us (by simp [us]) (fun y hy => (q5 _ (List.mem_of_getElem? hx)).2 y (by simpa [PV.cells] using hy)) fun k c v h1 h2 => ?_⟩
    · rw [Addr.add_lit]
      simp only [World.cell?, q1]
      simp only [us, List.getElem?_map, List.getElem?_zipIdx] at hk
      cases hc : cs[k]? with
      | none => rw [hc] at hk; cases hk
      | some c =>
        rw [hc] at hk
        simp at hk
        subst hk
        have := (hg k c hc).1
        rw [show off + (j * sz + 0) + k = off + (j * sz + k) by omega]
        simpa using this
    · simp only [us, List.getElem?_map, List.getElem?_zipIdx, h1] at h2
      simp at h2
      subst h2
      simpa using (hg k c h1).2
  · intro F w0 M0 G a w o hS hA ho _
    obtain ⟨b, off, cap, vs, T, e, _, _, _, _, q1, q2, q3, q4, q5, q6⟩ := elt_at hS hi (hA y _ hy) hx
    obtain ⟨v, e1, e2⟩ := q6 j x k _ hx (cl_get hk)
    refine ⟨_, run_load_one hT hz hn ho e (v := v) ?_, e2⟩
    simp only [World.cell?, q1]
    exact e1
end
end Go.AL
