/- Operations on the store: new rows of the call's own, and appends. -/
import Derived.Test.YtlmodlihiglnhaaALu
import Derived.DataReads
import Derived.Deep.DeepAppendWide
set_option linter.unusedVariables false
set_option linter.unusedSimpArgs false
namespace Go.AL
open Go.RowKit

section
variable {P : Program} {ty : TypeId} {av : Av} {s : St}

theorem s_buildVec (hT : TOk P) {t e : TypeId} {n : Nat} {parts : Array (Nat × Operand)} {z : PV} {ps : List (Nat × PV)} {xs : List PV} (h1 : elemT P t = some e) (h2 : zeroPV P e = some z)
    (h3 : partsPV av parts.toList = some ps) (h4 : n * sizeT P e ≤ 65536) (h0 : 0 < sizeT P e) (h5 : fillE (sizeT P e) (List.replicate n z) ps = some xs) :
    Sound2 P (.buildSlice t n parts) ty av s (.vec s.vc.length 0) { s with vc := s.vc ++ [some (0, sizeT P e, xs)] } ∧ Sound2 P (.buildSlice t n parts) ty av s (.bld s.tp.length 0 xs) { s with tp := s.tp ++ [(0, sizeT P e)] } := by
  refine ⟨?_, ?_⟩ <;> intro F w0 M0 G a w o hS hA ho _ <;> obtain ⟨cells, g1, g2, g3, rfl⟩ := run_buildSlice hT hA h1 h2 h3 h4 h0 h5 w o ho
  · have hl := g2.1
    rw [length_flat g3] at hl
    obtain ⟨G', k1, k2, k3⟩ := hS.rowVec (VcAt.push s (0, sizeT P e, xs)) (cap := xs.length) h0 g3 e (vs := cells) (by simp at hl; omega) (Nat.le_refl _) (fun i p v e1 e2 => g2.2 i p v e1 (by simpa using e2))
    exact OpTo.value g1 ⟨G', k1, k2, k3⟩
  · have hl := g2.1
    rw [length_flat g3] at hl
    obtain ⟨G', k1, k2, k3⟩ := hS.rowBld (TpAt.push s (0, sizeT P e)) (cap := xs.length) (xs := xs) h0 g3 e (vs := cells) (by simp at hl; omega) (Nat.le_refl _) (fun i p v e1 e2 => g2.2 i p v e1 (by simpa using e2))
    exact OpTo.value g1 ⟨G', k1, k2, k3⟩

theorem s_makeSlice (hT : TOk P) {t e : TypeId} {y x : Operand} {n m : Int} {z : PV} (h1 : elemT P t = some e) (h2 : zeroPV P e = some z) (hy : av y = some (.pv (.int .i64 n))) (hx : av x = some (.pv (.int .i64 m)))
    (hn : 0 ≤ n) (hnm : n ≤ m) (hm : m ≤ 2147483648) (hb : bytesT P e ≤ 65536) (h0 : 0 < sizeT P e) :
    Sound2 P (.makeSlice t y x) ty av s (.vec s.vc.length 0) { s with vc := s.vc ++ [some (0, sizeT P e, List.replicate n.toNat z)] } ∧ Sound2 P (.makeSlice t y x) ty av s (.bld s.tp.length 0 (List.replicate n.toNat z)) { s with tp := s.tp ++ [(0, sizeT P e)] } := by
  have key : ∀ (G : Gh) (a : Act) (w : World) (o : Oper), Avs av G s a → o.op = .makeSlice t y x → ∃ cells : Array Value, (execOp a.eval o).run P w = .ok (.value (.slice (some ⟨w.heap.size, 0, none⟩) n.toNat m.toNat)) (w.alloc (.cells cells e)) ∧ m.toNat * sizeT P e ≤ cells.size ∧
      (∀ x, x ∈ List.replicate n.toNat z → x.cells.length = sizeT P e) ∧ ∀ (i : Nat) p v, (flat (List.replicate n.toNat z))[i]? = some p → cells[i]? = some v → PRep G.M p v ∧ p.one = true := by
    intro G a w o hA ho
    obtain ⟨i, zv, hi, hz, hrun, hof, hsz⟩ := run_zeroPV hT h2 w
    have hse := sizeT_of hi
    have hbe : bytesT P e = i.bytes := by simp [bytesT, hi]
    obtain ⟨hc, hzl⟩ := CRel.zeros (M := G.M) hof n.toNat (by omega)
    have hsl : ∀ x, x ∈ List.replicate n.toNat z → x.cells.length = sizeT P e := fun x hx => by rw [(List.mem_replicate.1 hx).2]; omega
    have e1 := rep_int (hA y _ hy)
    have e2 := rep_int (hA x _ hx)
    have hbytes : (i.bytes : Int) * m ≤ 281474976710656 := by
      have h3 : (i.bytes : Int) * m ≤ 65536 * m := Int.mul_le_mul_of_nonneg_right (by omega) (by omega)
      omega
    refine ⟨_, by simp [execOp, ho, e1, e2, run_make w t e i zv (elemT_eq h1) (info_of hi) hz .i64 .i64 n m hn hnm hbytes (by omega)]; rfl, by rw [size_madeCells, hse]; exact Nat.le_refl _, hsl, fun k p v h3 h4 => ?_⟩
    have hk : k < (flat (List.replicate n.toNat z)).length := (List.getElem?_eq_some_iff.1 h3).1
    refine hc.2 k p v h3 ?_
    rw [length_flat hsl, List.length_replicate, hse] at hk
    have hk2 : k < m.toNat * i.size := Nat.lt_of_lt_of_le hk (Nat.mul_le_mul_right _ (by omega))
    simp [madeCells, hk2] at h4
    rw [hsz] at h4
    simp [hsz, hk, h4]
  refine ⟨?_, ?_⟩ <;> intro F w0 M0 G a w o hS hA ho _ <;> obtain ⟨cells, g1, g2, g3, g4⟩ := key G a w o hA ho
  · obtain ⟨G', k1, k2, k3⟩ := hS.rowVec (VcAt.push s (0, sizeT P e, List.replicate n.toNat z)) (cap := m.toNat) h0 g3 e (vs := cells) g2 (by simp; omega) g4
    simp only [List.length_replicate] at k3
    exact OpTo.value g1 ⟨G', k1, k2, k3⟩
  · obtain ⟨G', k1, k2, k3⟩ := hS.rowBld (TpAt.push s (0, sizeT P e)) (cap := m.toNat) (xs := List.replicate n.toNat z) h0 g3 e (vs := cells) g2 (by simp; omega) g4
    simp only [List.length_replicate] at k3
    exact OpTo.value g1 ⟨G', k1, k2, k3⟩

/-! ### Appends -/
theorem lst_cells {M : Mem} {ys : List PV} {A : Option Addr} {n c sz : Nat} (h : PRep M (.lst ys) (.slice A n c)) (hs : ∀ y, y ∈ ys → y.cells.length = sz) (hne : ys ≠ []) :
    ∃ (ad : Addr) (us : List Value), A = some ad ∧ 0 < sz ∧ CRel M (flat ys) us ∧ us.length = ys.length * sz ∧ ∀ (j : Nat) v, us[j]? = some v → M (ad.add j) = some v := by
  cases h with
  | lst xs A' cap sz' vs hsz hlc0 hs' ho hA hm hr =>
    obtain ⟨ad, rfl⟩ : ∃ ad, A = some ad := by cases A with | none => exact absurd rfl (hA (Nat.lt_of_lt_of_le (List.length_pos_iff.2 hne) hlc0)) | some ad => exact ⟨ad, rfl⟩
    have hsz2 : sz' = sz := by
      obtain ⟨x, hx⟩ := List.exists_mem_of_ne_nil _ hne
      rw [← hs' x hx, ← hs x hx]
    subst hsz2
    have hfl := length_flat hs
    have hget : ∀ i, i < ys.length * sz' → ∃ x y, ys[i / sz']? = some x ∧ x.cells[i % sz']? = some y ∧ (flat ys)[i]? = some y := by
      intro i hi
      have h1 : i / sz' < ys.length := Nat.div_lt_of_lt_mul (by rw [Nat.mul_comm]; exact hi)
      have h2 : i % sz' < ys[i / sz'].cells.length := by rw [hs _ (List.getElem_mem h1)]; exact Nat.mod_lt _ hsz
      have := flat_get hs (List.getElem?_eq_getElem h1) (List.getElem?_eq_getElem h2)
      rw [show i / sz' * sz' + i % sz' = i from by rw [Nat.mul_comm]; exact Nat.div_add_mod _ _] at this
      exact ⟨_, _, List.getElem?_eq_getElem h1, List.getElem?_eq_getElem h2, this⟩
    refine ⟨ad, (List.range (ys.length * sz')).map fun i => vs (i / sz') (i % sz'), rfl, hsz, ⟨by simp [hfl], fun i p v h1 h2 => ?_⟩, by simp, fun j v hj => ?_⟩
    · have hi : i < ys.length * sz' := by rw [← hfl]; exact (List.getElem?_eq_some_iff.1 h1).1
      obtain ⟨x, y, e1, e2, e3⟩ := hget i hi
      rw [e3] at h1
      obtain rfl := Option.some.inj h1
      simp [hi] at h2
      subst h2
      exact ⟨hr _ x _ _ e1 e2, ho x (List.mem_of_getElem? e1) _ (List.mem_of_getElem? e2)⟩
    · have hi : j < ys.length * sz' := by have := (List.getElem?_eq_some_iff.1 hj).1; simpa using this
      obtain ⟨x, y, e1, e2, e3⟩ := hget j hi
      simp [hi] at hj
      subst hj
      have := hm ad rfl _ x _ y e1 e2
      rwa [show j / sz' * sz' + j % sz' = j from by rw [Nat.mul_comm]; exact Nat.div_add_mod _ _] at this

/-- An append that has room: whatever the block is called. -/
theorem run_append_in (w : World) {t ty e : TypeId} {i : TypeInfo} (ht : P.underlying t = some (.slice e)) (hi : P.info? e = some i) {A : Addr} (hsp : A.spot = none) {sLen sCap : Nat} {cur : Array Value} {T : TypeId} (hg : w.heap[A.block]? = some (.cells cur T (0, 0)))
    {a : Addr} {m c : Nat} {news : List Value} (hl : news.length = m * i.size) (hnews : ∀ (j : Nat) u, news[j]? = some u → w.cell? (a.add j) = some u) (h1 : ∀ u ∈ news, u.oneCell' = true) (hroom : sLen + m ≤ sCap) (hfit : A.off + sLen * i.size + news.length ≤ cur.size) :
    (Builtin.append_ #[t, t] ty #[.slice (some A) sLen sCap, .slice (some a) m c]).run P w = .ok (.slice (some A) (sLen + m) sCap) (w.setRow A.block (splice cur (A.off + sLen * i.size) news)) := by
  obtain ⟨b, off, spot⟩ := A
  simp only at hsp
  subst hsp
  have hf := run_firstCells_some (P := P) w i.size m a m c news hl hnews
  have hst := run_storeCells_at P b (off + sLen * i.size) T news 0 cur w hg (by simpa using hfit) h1
  simp only [Nat.add_zero] at hst
  simp [Builtin.append_, run_underlying ht, sizeOf, typeInfo, hi, Builtin.lenOf, hroom, hf, Addr.add_lit, hst, splice]

theorem run_append_none (w : World) {t ty e : TypeId} {i : TypeInfo} (ht : P.underlying t = some (.slice e)) (hi : P.info? e = some i) {A A' : Option Addr} {sLen sCap c : Nat} (hle : sLen ≤ sCap) :
    (Builtin.append_ #[t, t] ty #[.slice A sLen sCap, .slice A' 0 c]).run P w = .ok (.slice A sLen sCap) w := by
  cases A <;> cases A' <;> simp [Builtin.append_, run_underlying ht, sizeOf, typeInfo, hi, Builtin.lenOf, hle, Builtin.firstCells, loadCells, loadCellsFrom, storeCells]

theorem crel_one {M : Mem} {ps : List PV} {us : List Value} (h : CRel M ps us) : ∀ u, u ∈ us → u.oneCell' = true := fun u hu => by
  obtain ⟨k, hk, rfl⟩ := List.mem_iff_getElem.1 hu
  exact h.one (by rw [← h.1]; exact hk) (List.getElem?_eq_getElem hk)

theorem flat_append (xs ys : List PV) : flat (xs ++ ys) = flat xs ++ flat ys := by simp [flat]
theorem CRel.append {M : Mem} {ps qs : List PV} {us vs : List Value} (h : CRel M ps us) (k : CRel M qs vs) : CRel M (ps ++ qs) (us ++ vs) := by
  refine ⟨by simp [h.1, k.1], fun i p v h1 h2 => ?_⟩
  by_cases hi : i < ps.length
  · rw [List.getElem?_append_left hi] at h1
    rw [List.getElem?_append_left (by rw [h.1]; exact hi)] at h2
    exact h.2 i p v h1 h2
  · rw [List.getElem?_append_right (by omega)] at h1
    rw [List.getElem?_append_right (by rw [h.1]; omega), h.1] at h2
    exact k.2 _ p v h1 h2

theorem s_append (hT : TOk P) {c : Call} {t e : TypeId} {z : PV} {y x : Operand} {b : AV} {i v sz : Nat} {xs ys : List PV} (hc : c.callee = .builtin .append) (ha : c.args = #[y, x]) (ht : c.argTypes = #[t, t]) (h1 : elemT P t = some e) (h2 : zeroPV P e = some z)
    (hy : av y = some (.bld i v xs)) (hx : av x = some b) (hl : b.list = some ys) (hv : s.tp[i]? = some (v, sz)) (hsz : sz = sizeT P e) (hb : bytesT P e ≤ 65536) (hb0 : 0 < bytesT P e) (hh : headOk sz ys = true) (hsm : (xs.length + ys.length) * bytesT P e ≤ 141000000000000) :
    Sound2 P (.call c) ty av s (.bld i (v + 1) (xs ++ ys)) { s with tp := s.tp.set i (v + 1, sz) } := by
  intro F w0 M0 G a w o hS hA ho hty
  have hbld := hA y _ hy
  have hrep := list_rel (hA x b hx) hl
  obtain ⟨hil, hrx, htl⟩ := hbld
  obtain ⟨ti, zv, hti, hz, _, hof, hzs⟩ := run_zeroPV hT h2 w
  have hse := sizeT_of hti
  have hbe : bytesT P e = ti.bytes := by simp [bytesT, hti]
  obtain ⟨A', c', ex⟩ := rep_lst hrep
  rw [ex] at hrep
  obtain ⟨⟨A, k1, k2⟩, k3⟩ := (htl _ hv).2 rfl
  have hys := headOk_all hrep hh
  have hrun0 : (execOp a.eval o).run P w = ((Builtin.append_ #[t, t] ty #[a.eval y, .slice A' ys.length c']).run P w).andThen fun u w' => .ok (.value u) w' := by
    simp [execOp, ho, resolve, hc, ha, invoke, builtin, ht, ex, hty]
  obtain ⟨⟨t1, t2⟩, t3⟩ := hS.tp i _ hv
  simp only at t1
  by_cases hne : ys = []
  · subst hne
    simp only [List.length_nil] at hrun0
    rw [k1, run_append_none w (elemT_eq h1) (info_of hti) (by omega)] at hrun0
    obtain ⟨q1, q2⟩ := hS.bump hv
    refine OpTo.value hrun0 ⟨G, q1, q2, by simpa using hil, by rw [List.append_nil, ← k1]; exact hrx, fun cur hcur => ?_⟩
    simp only [List.getElem?_set_self hil, Option.some.injEq] at hcur
    subst hcur
    exact ⟨Nat.le_refl _, fun _ => by rw [List.append_nil]; exact ⟨⟨A, rfl, k2⟩, k3⟩⟩
  · obtain ⟨ad', us, rfl, hpos, hcu, hul, hM⟩ := lst_cells hrep hys hne
    have hyl : 0 < ys.length := List.length_pos_iff.2 hne
    have hnews : ∀ (j : Nat) u, us[j]? = some u → w.cell? (ad'.add j) = some u := fun j u hj => hS.agree _ _ (hM j u hj)
    by_cases hroom : ys.length ≤ (G.τ i).room
    · -- there is room
      have ht3 : ∃ b o vs T, (G.τ i).tail = some ⟨b, o, none⟩ ∧ G.own b = .tip i ∧ w.heap[b]? = some (.cells vs T (0, 0)) ∧ o + (G.τ i).room * (G.τ i).sz ≤ vs.size := by
        rcases t3 with ⟨_, t3⟩ | t3
        · omega
        · exact t3
      obtain ⟨b', o', vs', T', e1, _, _, _⟩ := ht3
      have hk2 := k2 (by omega)
      rw [e1] at hk2
      cases A with
      | none => cases hk2
      | some A =>
        simp only [Option.map_some, Option.some.injEq] at hk2
        have hsp : A.spot = none := by
          by_cases hxs : xs = []
          · subst hxs
            simp [Addr.add] at hk2
            rw [hk2]
          · rw [k1] at hrx
            obtain ⟨ad, us', q1, q2, q3, q4, q5⟩ := lst_cells hrx k3 hxs
            obtain rfl := Option.some.inj q1
            have hlen : 0 < us'.length := by rw [q4]; exact Nat.mul_pos (List.length_pos_iff.2 hxs) q2
            have := q5 0 us'[0] (List.getElem?_eq_getElem hlen)
            rw [Addr.add_zero'] at this
            exact World.cell?_spot (hS.agree _ _ this)
        obtain ⟨cells, T, m1, m2, G', m3, m4, m5⟩ := hS.inBld hv (A := A) (c := xs.length + (G.τ i).room) ⟨hil, by rw [← k1]; exact hrx, by rw [← k1]; exact htl⟩ hsp (by omega) hys hcu hyl
        rw [k1, run_append_in w (elemT_eq h1) (info_of hti) hsp m1 (by rw [hul, hsz, hse]) hnews (crel_one hcu) (by omega) (by rw [hsz, hse] at m2; exact m2)] at hrun0
        rw [hsz, hse] at m3
        rw [← hse, ← hsz] at m3 hrun0
        exact OpTo.value hrun0 ⟨G', m3, m4, m5⟩
    · -- a new row
      have hS' := hS.drew
      have hbytes : (xs.length + ys.length) * ti.bytes ≤ 141000000000000 := by rw [← hbe]; exact hsm
      have hcount : xs.length + ys.length ≤ 141000000000000 := Nat.le_trans (Nat.le_mul_of_pos_right _ (by omega)) hbytes
      have hwide : (xs.length + ys.length + (xs.length + ys.length) / 4 + 192) * ti.bytes ≤ 281474976710656 := by
        have h4 : (xs.length + ys.length) / 4 * ti.bytes ≤ 35250000000000 := by
          have : (xs.length + ys.length) / 4 * ti.bytes * 4 ≤ (xs.length + ys.length) * ti.bytes := by
            rw [Nat.mul_assoc, Nat.mul_comm ti.bytes 4, ← Nat.mul_assoc]
            exact Nat.mul_le_mul_right _ (Nat.div_mul_le_self _ _)
          omega
        have h5 : 192 * ti.bytes ≤ 192 * 65536 := Nat.mul_le_mul_left _ (by omega)
        rw [Nat.add_mul, Nat.add_mul]
        omega
      have fin : ∀ (old : List Value) (cp : Nat), CRel G.M (flat xs) old → (∀ x, x ∈ xs → x.cells.length = sz) → xs.length + ys.length ≤ grownCap w (xs.length + ys.length) cp e → (Builtin.append_ #[t, t] ty #[a.eval y, .slice (some ad') ys.length c']).run P w = .ok (.slice (some ⟨w.heap.size, 0, none⟩) (xs.length + ys.length) (grownCap w (xs.length + ys.length) cp e))
          (w.drew.alloc (.cells (old.toArray ++ us.toArray ++ Builtin.zeroCells zv.cells (grownCap w (xs.length + ys.length) cp e - (xs.length + ys.length))) e)) → OpTo P o a w fun u w' => ∃ G', SRel F w0 M0 G' { s with tp := s.tp.set i (v + 1, sz) } w' ∧ Ext G s G' { s with tp := s.tp.set i (v + 1, sz) } ∧ ARel G' { s with tp := s.tp.set i (v + 1, sz) } (.bld i (v + 1) (xs ++ ys)) u := by
        intro old cp ho1 hxs hge hrun
        rw [hrun] at hrun0
        have hall : ∀ x, x ∈ xs ++ ys → x.cells.length = sz := fun x hx => by rcases List.mem_append.1 hx with hx | hx <;> first | exact hxs x hx | exact hys x hx
        have hcr := ho1.append hcu
        rw [← flat_append] at hcr
        have hfl := length_flat hall
        have hlen : old.length + us.length = (xs.length + ys.length) * sz := by have := hcr.1; rw [hfl] at this; simpa using this
        obtain ⟨G', m3, m4, m5⟩ := hS'.rowBld (TpAt.set hv sz) (xs := xs ++ ys) (cap := grownCap w (xs.length + ys.length) cp e) (vs := old.toArray ++ us.toArray ++ Builtin.zeroCells zv.cells (grownCap w (xs.length + ys.length) cp e - (xs.length + ys.length))) hpos hall e (by
            simp only [Array.size_append, List.size_toArray, size_zeroCells, hlen, hzs, ← hse, ← hsz]
            rw [← Nat.add_mul, show xs.length + ys.length + (grownCap w (xs.length + ys.length) cp e - (xs.length + ys.length)) = grownCap w (xs.length + ys.length) cp e by omega]
            exact Nat.le_refl _) (by simpa using hge) (fun k p u h3 h4 => by
            have hk : k < (flat (xs ++ ys)).length := (List.getElem?_eq_some_iff.1 h3).1
            rw [Array.getElem?_append_left (by simp only [Array.size_append, List.size_toArray]; rw [hlen, ← List.length_append, ← hfl]; exact hk)] at h4
            exact hcr.2 k p u h3 (by simpa using h4))
        rw [List.length_append] at m5
        exact OpTo.value hrun0 ⟨G', m3, m4, m5⟩
      cases A with
      | none =>
        have hxs : xs = [] := by
          cases xs with
          | nil => rfl
          | cons x xs =>
            rw [k1] at hrx
            cases hrx with
            | lst _ _ _ _ _ _ _ _ _ hA' _ _ => exact absurd rfl (hA' (by simp only [List.length_cons]; omega))
        have hroom0 : (G.τ i).room = 0 := by
          rcases Nat.eq_zero_or_pos (G.τ i).room with h | h
          · exact h
          · have := k2 (by omega)
            simp at this
            rcases t3 with ⟨_, t3⟩ | ⟨b, o, vs, T, t3, _⟩
            · omega
            · rw [t3] at this; cases this
        subst hxs
        rw [hroom0] at k1
        simp only [List.length_nil, Nat.zero_add, Nat.add_zero] at k1 hsm hbytes hcount fin
        have hge := grownCap_ge w ys.length 0 e
        have := run_append_nil (P := P) w t ty e ti zv (elemT_eq h1) (info_of hti) hz ad' ys.length c' us (by rw [hul, hsz, hse]) hnews hyl (by omega) (by omega)
        rw [← k1] at this
        refine fin [] 0 ⟨rfl, by simp [flat]⟩ (by simp) hge ?_
        simpa using this
      | some A =>
        rw [k1] at hrx
        obtain ⟨old, o1, o2, o3⟩ : ∃ old : List Value, CRel G.M (flat xs) old ∧ old.length = xs.length * sz ∧ ∀ (j : Nat) u, old[j]? = some u → w.cell? (A.add j) = some u := by
          by_cases hxs : xs = []
          · subst hxs; exact ⟨[], ⟨rfl, by simp [flat]⟩, by simp, by simp⟩
          · have k3' : ∀ x, x ∈ xs → x.cells.length = sz := fun x hx => by rw [k3 x hx, t1]
            obtain ⟨ad, us', q1, q2, q3, q4, q5⟩ := lst_cells hrx k3' hxs
            obtain rfl := Option.some.inj q1
            exact ⟨us', q3, q4, fun j u hj => hS.agree _ _ (q5 j u hj)⟩
        have hg : xs.length + (G.τ i).room < xs.length + ys.length := by omega
        have := run_append_grow (P := P) w t ty e ti zv (elemT_eq h1) (info_of hti) hz A xs.length (xs.length + (G.τ i).room) old (by rw [o2, hsz, hse]) o3 ad' ys.length c' us (by rw [hul, hsz, hse]) hnews hg (by omega) (growslice_fits_wide hg hwide)
        rw [← k1] at this
        exact fin old _ o1 (fun x hx => by rw [k3 x hx, t1]) (grownCap_ge w _ _ e) this
end
end Go.AL
