/- Operations on the store: writes, new rows, vectors. -/
import Derived.Test.YtlmodlihiglnhaaALt
set_option linter.unusedVariables false
set_option linter.unusedSimpArgs false
namespace Go.AL
open Go.RowKit

section
variable {P : Program} {ty : TypeId} {av : Av} {s : St}

theorem splice_get {vs : Array Value} {o : Nat} {us : List Value} (h : o + us.length ≤ vs.size) (k : Nat) : (splice vs o us)[k]? = if o ≤ k ∧ k < o + us.length then us[k - o]? else vs[k]? := by
  split
  · rename_i hk
    have := splice_new h (k := k - o) (by omega)
    rwa [show o + (k - o) = k by omega] at this
  · exact splice_old h (by omega)

theorem run_storeAt' {t : TypeId} {i : TypeInfo} (hi : P.types[t]? = some i) {b off : Nat} {vs : Array Value} {T : TypeId} {w : World} (hp : w.heap[b]? = some (.cells vs T (0, 0))) {u : Value} (hsz : u.cells.toList.length = i.size) (hfit : off + u.cells.toList.length ≤ vs.size)
    (h1 : ∀ x, x ∈ u.cells.toList → x.oneCell' = true) : (Instr.storeAt t (.pointer (some ⟨b, off, none⟩)) u).run P w = .ok () (w.setRow b (splice vs off u.cells.toList)) := by
  have := run_storeCells_at (P := P) b off T u.cells.toList 0 vs w hp (by simpa using hfit) h1
  simp only [Nat.add_zero] at this
  have hs : u.cells.size = i.size := by simpa using hsz
  simp [Instr.storeAt, Instr.sureAddr, storeVar, run_sizeOf' hi, hs, this, splice]

theorem sizeT_of {t : TypeId} {i : TypeInfo} (h : P.types[t]? = some i) : sizeT P t = i.size := by simp [sizeT, h]

theorem s_store_box (hT : TOk P) {t : TypeId} {z : PV} (hz : zeroPV P t = some z) {y x : Operand} {i off : Nat} {cs vs : List AV} {b : AV} (hy : av y = some (.box i off)) (hx : av x = some b) (hi : s.bx[i]? = some (false, cs)) (hc : b.cellsAV = some vs)
    (hl : vs.length = sizeT P t) (hfit : off + vs.length ≤ cs.length) (ha : vs.all AV.cell = true) : Sound2 P (.store t y x) ty av s .undef { s with bx := s.bx.set i (false, setAt cs off vs) } := by
  intro F w0 M0 G a w o hS hA ho _
  obtain ⟨_, b', hb, e⟩ := hA y _ hy
  have hr := hA x _ hx
  obtain ⟨g1, g2⟩ := cellsAV_rel hr hc
  have g3 := cellsAV_one hr hc ha
  obtain ⟨j, hj, zv, hzv⟩ := zero_size hT hz
  rw [sizeT_of hj] at hl
  obtain ⟨p1, p2, p3, us, T, p4, p5, p6⟩ := hS.bx i false cs b' hi hb
  have hf : off + (a.eval x).cells.toList.length ≤ us.size := by rw [g1, p5]; exact hfit
  have hrun := run_storeAt' hj (P := P) p4 (u := a.eval x) (off := off) (by rw [g1]; exact hl) hf g3
  obtain ⟨k1, k2⟩ := hS.updBox (cs' := setAt cs off vs) (vs' := splice us off (a.eval x).cells.toList) hi hb (by rw [size_splice hf, length_setAt]; exact p5) (fun k c v e1 e2 => by
    rw [setAt_get vs cs off k hfit] at e1
    rw [splice_get hf, g1] at e2
    split at e1
    · rename_i hk
      rw [if_pos hk] at e2
      exact ⟨g2 _ c v e1 e2, g3 v (List.mem_of_getElem? e2)⟩
    · rename_i hk
      rw [if_neg hk] at e2
      exact p6 k c v e1 e2)
  exact OpTo.skip (by simp [execOp, ho, e, hrun]) ⟨G, k1, k2, rfl⟩

theorem setc_cells {x p : PV} {k : Nat} (h : k < x.cells.length) (hp : p.one = true) : (x.setc k p).cells = x.cells.set k p := by
  have hpc : p.cells = [p] := by cases p <;> simp [PV.one] at hp <;> rfl
  cases x <;> simp [PV.cells, PV.setc] at h ⊢ <;> first | (subst h; simpa [PV.cells] using hpc) | skip

theorem s_store_elt (hT : TOk P) {t : TypeId} {z : PV} (hz : zeroPV P t = some z) {y x : Operand} {i ver j k sz : Nat} {xs : List PV} {e p e' : PV} (hy : av y = some (.elt i ver j k)) (hx : av x = some (.pv p)) (hi : s.vc[i]? = some (some (ver, sz, xs))) (he : xs[j]? = some e)
    (hn : p.cells.length = sizeT P t) (hnt : ∀ cs, p ≠ .tup cs) (hk : e.cells.length = sz → k + p.cells.length ≤ sz) (hl : e.cells.length = sz → e'.cells.length = sz) (h1 : ∀ q, q < k ∨ k + p.cells.length ≤ q → e'.cells[q]? = e.cells[q]?) (h2 : ∀ q, q < p.cells.length → e'.cells[k + q]? = p.cells[q]?) :
    Sound2 P (.store t y x) ty av s .undef { s with vc := s.vc.set i (some (ver, sz, xs.set j e')) } := by
  intro F w0 M0 G a w o hS hA ho _
  obtain ⟨b, off, cap, vs, T, e1, q8, q9, q10, q7, q1, q2, q3, q4, q5, q6⟩ := elt_at hS hi (hA y _ hy) he
  have hj : j < xs.length := (List.getElem?_eq_some_iff.1 he).1
  have hes := (q5 e (List.mem_of_getElem? he)).1
  replace hk := hk hes
  replace hl := hl hes
  obtain ⟨g1, g2, g3⟩ := PRep.cells (hA x _ hx) hnt
  obtain ⟨ti, hti, zv, hzv⟩ := zero_size hT hz
  rw [sizeT_of hti] at hn
  have hj1 : j * sz + sz ≤ cap * sz := by
    have : (j + 1) * sz ≤ cap * sz := Nat.mul_le_mul_right _ (by omega)
    rw [Nat.succ_mul] at this; exact this
  have hf : off + (j * sz + k) + (a.eval x).cells.toList.length ≤ vs.size := by rw [g1]; omega
  have hone : ∀ u, u ∈ (a.eval x).cells.toList → u.oneCell' = true := fun u hu => by
    obtain ⟨q, hq, rfl⟩ := List.mem_iff_getElem.1 hu
    have hq2 : q < p.cells.length := by omega
    exact (g3 q p.cells[q] _ (List.getElem?_eq_getElem hq2) (List.getElem?_eq_getElem hq)).one (g2 _ (List.getElem_mem hq2))
  have hrun := run_storeAt' hti (P := P) q1 (u := a.eval x) (off := off + (j * sz + k)) (by rw [g1]; exact hn) hf hone
  obtain ⟨k1, k2⟩ := hS.updVec (xs' := xs.set j e') (vs' := splice vs (off + (j * sz + k)) (a.eval x).cells.toList) hi q8 q7 q1 (size_splice hf) (by simp) (fun x' hx' => by
      rcases List.mem_or_eq_of_mem_set hx' with hx' | rfl
      · exact q5 x' hx'
      · refine ⟨hl, fun y' hy' => ?_⟩
        obtain ⟨q, hq, rfl⟩ := List.mem_iff_getElem.1 hy'
        by_cases hin : k ≤ q ∧ q < k + p.cells.length
        · have := h2 (q - k) (by omega)
          rw [show k + (q - k) = q by omega, List.getElem?_eq_getElem hq] at this
          exact g2 _ (List.mem_of_getElem? this.symm)
        · have := h1 q (by omega)
          rw [List.getElem?_eq_getElem hq] at this
          exact (q5 e (List.mem_of_getElem? he)).2 _ (List.mem_of_getElem? this.symm))
    (fun j' x' k' y' h3 h4 => by
      rw [splice_get hf, g1]
      by_cases hjj : j = j'
      · subst hjj
        rw [List.getElem?_set_self hj] at h3
        obtain rfl := Option.some.inj h3
        by_cases hin : k ≤ k' ∧ k' < k + p.cells.length
        · rw [if_pos (by omega)]
          have h5 := h2 (k' - k) (by omega)
          rw [show k + (k' - k) = k' by omega, h4] at h5
          have hlt : k' - k < (a.eval x).cells.toList.length := by rw [g1]; omega
          refine ⟨(a.eval x).cells.toList[k' - k], ?_, g3 _ y' _ h5.symm (List.getElem?_eq_getElem hlt)⟩
          rw [show off + (j * sz + k') - (off + (j * sz + k)) = k' - k by omega]
          exact List.getElem?_eq_getElem hlt
        · rw [if_neg (by omega)]
          rw [h1 k' (by omega)] at h4
          exact q6 j e k' y' he h4
      · rw [List.getElem?_set_ne hjj] at h3
        have hk' : k' < sz := by rw [← (q5 x' (List.mem_of_getElem? h3)).1]; exact (List.getElem?_eq_some_iff.1 h4).1
        have hne : ¬ (off + (j * sz + k) ≤ off + (j' * sz + k') ∧ off + (j' * sz + k') < off + (j * sz + k) + p.cells.length) := by
          rcases Nat.lt_or_gt_of_ne hjj with hlt | hlt
          · have : (j + 1) * sz ≤ j' * sz := Nat.mul_le_mul_right _ hlt
            rw [Nat.succ_mul] at this
            omega
          · have : (j' + 1) * sz ≤ j * sz := Nat.mul_le_mul_right _ hlt
            rw [Nat.succ_mul] at this
            omega
        rw [if_neg hne]
        exact q6 j' x' k' y' h3 h4)
  exact OpTo.skip (by simp [execOp, ho, e1, hrun]) ⟨G, k1, k2, rfl⟩

theorem storeAV_sound (hT : TOk P) {ρ : Type} {t : TypeId} {y x : Operand} {b c : AV} (hy : av y = some b) (hx : av x = some c) {K : St → Option ρ} {r : ρ} (h : storeAV P t b c s K = some r) : ∃ s', K s' = some r ∧ Sound2 P (.store t y x) ty av s .undef s' := by
  unfold storeAV at h
  split at h
  · cases h
  rename_i z hz
  split at h
  · rename_i i off
    split at h
    · rename_i zf cs vs hi hc
      replace h := bif_some h; obtain ⟨h1, h⟩ := h
      simp only [Bool.and_eq_true, Bool.not_eq_true'] at h1
      obtain ⟨⟨⟨rfl, h2⟩, h3⟩, h4⟩ := h1
      exact ⟨_, h, s_store_box hT hz hy hx hi hc (beq_eq h2) (Nat.le_of_ble_eq_true h3) h4⟩
    · cases h
  · rename_i i ver j k
    split at h
    · rename_i cur sz xs p hi
      replace h := bif_some h; obtain ⟨h1, h⟩ := h
      obtain rfl := beq_eq h1
      replace h := bind_some h; obtain ⟨e, he, h⟩ := h
      obtain ⟨ti, hti, zv, hzv⟩ := zero_size hT hz
      split at h
      · rename_i n hn
        replace h := bif_some h; obtain ⟨h1, h⟩ := h
        simp only [Bool.and_eq_true] at h1
        obtain ⟨⟨h2, h3⟩, h4⟩ := h1
        obtain rfl := beq_eq h2
        obtain ⟨c1, _, c2⟩ := cells_of_fits hT h4 ⟨ti, zv, hti, hzv⟩
        obtain ⟨c3, _, _⟩ := cells_of_fits hT h3 ⟨ti, zv, hti, hzv⟩
        exact ⟨_, h, s_store_elt hT hz hy hx hi he c1 c2 (by omega) (by omega) (fun q hq => by
          rw [List.getElem?_eq_none (by omega), List.getElem?_eq_none (by omega)]) (fun q _ => by rw [Nat.zero_add])⟩
      · rename_i hn
        replace h := bif_some h; obtain ⟨h1, h⟩ := h
        simp only [Bool.and_eq_true] at h1
        obtain ⟨h2, h3⟩ := h1
        have hk := blt_lt h2
        have hpc : p.cells = [p] := by cases p <;> simp [PV.one] at h3 <;> rfl
        obtain ⟨i', d, hi', hsz, _⟩ := shOf_one hT (isAgg_none hn) ⟨ti, zv, hti, hzv⟩
        refine ⟨_, h, s_store_elt hT hz hy hx hi he (by rw [hpc, sizeT_of hi', hsz]; rfl) (by rintro cs rfl; cases h3) (fun _ => by rw [hpc]; simp; omega) (fun hes => by rw [setc_cells hk h3]; simpa using hes) (fun q hq => ?_) (fun q hq => ?_)⟩
        · rw [hpc] at hq
          rw [setc_cells hk h3, List.getElem?_set_ne (by simp at hq; omega)]
        · rw [hpc] at hq
          have : q = 0 := by simpa using hq
          subst this
          rw [setc_cells hk h3, hpc, Nat.add_zero, List.getElem?_set_self hk]; rfl
    · cases h
  · cases h

theorem loadAV_sound (hT : TOk P) {ρ : Type} {t : TypeId} {y : Operand} {b : AV} (hy : av y = some b) {K : AV → Option ρ} {r : ρ} (h : loadAV P t b s K = some r) : ∃ v, K v = some r ∧ Sound0 P (.load t y) ty av s v := by
  unfold loadAV at h
  split at h
  · cases h
  rename_i z hz
  split at h
  · rename_i cs
    obtain ⟨g1, g2⟩ := s_load_ptr (ty := ty) hT hz hy
    split at h
    · rename_i n hn
      replace h := bif_some h; obtain ⟨h1, h⟩ := h
      exact ⟨_, h, g1 n hn (Nat.le_of_ble_eq_true h1) s⟩
    · rename_i hn
      split at h
      · exact ⟨_, h, g2 _ hn rfl s⟩
      · cases h
  · rename_i i off
    split at h
    · rename_i zf cs hi
      obtain ⟨g1, g2⟩ := s_load_box (ty := ty) hT hz hy hi
      split at h
      · rename_i n hn
        replace h := bif_some h; obtain ⟨h1, h⟩ := h
        split at h
        · rename_i ps hps
          exact ⟨_, h, g1 n ps hn (Nat.le_of_ble_eq_true h1) hps⟩
        · cases h
      · rename_i hn
        split at h
        · rename_i c hc
          replace h := bif_some h; obtain ⟨h1, h⟩ := h
          exact ⟨_, h, g2 c hn hc⟩
        · cases h
    · cases h
  · rename_i i ver j k
    split at h
    · rename_i cur sz xs hi
      replace h := bif_some h; obtain ⟨h1, h⟩ := h
      obtain rfl := beq_eq h1
      replace h := bind_some h; obtain ⟨e, he, h⟩ := h
      obtain ⟨g1, g2⟩ := s_load_elt (ty := ty) hT hz hy hi he
      split at h
      · rename_i n hn
        replace h := bif_some h; obtain ⟨h1, h⟩ := h
        simp only [Bool.and_eq_true] at h1
        rw [Sh.view_eq _ _ h1.2] at h
        exact ⟨_, h, g1 n hn (beq_eq h1.1) h1.2⟩
      · rename_i hn
        replace h := bif_some h; obtain ⟨h1, h⟩ := h
        simp only [Bool.and_eq_true] at h1
        rw [Sh.view_eq _ _ h1.2] at h
        exact ⟨_, h, g2 hn (blt_lt h1.1)⟩
    · cases h
  · cases h
end
end Go.AL
