/- Conversions; and all operations that depend on their operands alone, together. -/
import Derived.Test.YtlmodlihiglnhaaALl
import Derived.Lib.ConvBytes
import Derived.Laws.BytesArg
set_option linter.unusedVariables false
set_option linter.unusedSimpArgs false
namespace Go.AL
open Go.RowKit

section
variable {F : Nat → Prop} {w0 : World} {M0 : Mem} {G : Gh} {s : St} {w w' : World}

theorem below_cell (hb : Below w.heap.size w w') {a : Addr} (ha : a.block < w.heap.size) : w'.cell? a = w.cell? a := by
  simp only [World.cell?, hb.block a.block ha]

/-- A world that has more blocks. -/
theorem SRel.grow (h : SRel F w0 M0 G s w) (hb : Below w.heap.size w w') : SRel F w0 M0 G s w' where
  os := hb.os.trans h.os
  tape := hb.tape.trans h.tape
  output := hb.output.trans h.output
  size := Nat.le_trans h.size hb.size
  old k hk hF := by rw [hb.block k (Nat.lt_of_lt_of_le hk h.size)]; exact h.old k hk hF
  agree a v hM := by rw [below_cell hb (M_lt h hM)]; exact h.agree a v hM
  base := h.base
  newM := h.newM
  own b hb' := ⟨Nat.lt_of_lt_of_le (h.own b hb').1 hb.size, (h.own b hb').2⟩
  ownM := h.ownM
  bx i z cs b h1 h2 := by
    obtain ⟨q1, q2, q3, vs, T, q4, q5⟩ := h.bx i z cs b h1 h2
    exact ⟨q1, Nat.lt_of_lt_of_le q2 hb.size, q3, vs, T, by rw [hb.block b q2]; exact q4, q5⟩
  vc i ver sz xs h1 := by
    obtain ⟨q0, q1, q2⟩ := h.vc i ver sz xs h1
    refine ⟨q0, q1, ?_⟩
    rcases q2 with q2 | ⟨b, o, vs, T, g1, g2, g3, g4⟩
    · exact .inl q2
    · exact .inr ⟨b, o, vs, T, g1, g2, by rw [hb.block b (h.own b (by rw [g2]; simp)).1]; exact g3, g4⟩
  tp i e h1 := by
    obtain ⟨q0, q2⟩ := h.tp i e h1
    refine ⟨q0, ?_⟩
    rcases q2 with q2 | ⟨b, o, vs, T, g1, g2, g3, g4⟩
    · exact .inl q2
    · exact .inr ⟨b, o, vs, T, g1, g2, by rw [hb.block b (h.own b (by rw [g2]; simp)).1]; exact g3, g4⟩

theorem SRel.newPlainAt (h : SRel F w0 M0 G s w) (hb : Below w.heap.size w w') {xs : List PV} {sz : Nat} (hsz : 0 < sz) (hs : ∀ x, x ∈ xs → x.cells.length = sz) (vs : Nat → Value)
    (hc : ∀ (i : Nat) p, (flat xs)[i]? = some p → w'.cell? ⟨w.heap.size, i, none⟩ = some (vs i) ∧ PRep G.M p (vs i) ∧ p.one = true) (cap : Nat) (hcap : xs.length ≤ cap) :
    ∃ G', SRel F w0 M0 G' s w' ∧ Ext G s G' s ∧ PRep G'.M (.lst xs) (.slice (some ⟨w.heap.size, 0, none⟩) xs.length cap) := by
  let M' : Mem := fun a => if a.block = w.heap.size ∧ a.spot = none ∧ a.off < (flat xs).length then some (vs a.off) else G.M a
  have hM : G.M.le M' := fun a v e => by
    have := M_lt h e
    simp only [M']
    rw [if_neg (by omega)]; exact e
  have hM2 : ∀ a v, M' a = some v → G.M a = some v ∨ a.block = w.heap.size := fun a v e => by
    simp only [M'] at e
    split at e
    · rename_i hcnd; exact .inr hcnd.1
    · exact .inl e
  have ha := h.grow hb
  have he := Ext.mem s hM
  refine ⟨{ G with M := M' }, ⟨ha.os, ha.tape, ha.output, ha.size, ha.old, ?_, Mem.le_trans h.base hM, ?_, ha.own, ?_, ?_, ?_, ha.tp⟩, he, ?_⟩
  · intro a v e
    simp only [M'] at e
    split at e
    · rename_i hcnd
      obtain ⟨b, off, spot⟩ := a
      obtain ⟨rfl, rfl, h3⟩ := hcnd
      obtain rfl := Option.some.inj e
      exact (hc off _ (List.getElem?_eq_getElem h3)).1
    · exact ha.agree a v e
  · intro a v e
    rcases hM2 a v e with e | e
    · exact h.newM a v e
    · exact .inr (.inl (by rw [e]; exact h.size))
  · intro a v e
    rcases hM2 a v e with e | e
    · exact h.ownM a v e
    · left
      rw [e]
      cases ho : G.own w.heap.size with
      | free => rfl
      | _ => have := (h.own w.heap.size (by rw [ho]; simp)).1; omega
  · intro i z cs b h1 h2
    obtain ⟨q1, q2, q3, us, T', q4, q5, q6⟩ := ha.bx i z cs b h1 h2
    exact ⟨q1, q2, q3, us, T', q4, q5, fun k c v hk hv => ⟨(q6 k c v hk hv).1.ext he, (q6 k c v hk hv).2⟩⟩
  · intro i ver sz ys h1
    obtain ⟨q0, q1, q2⟩ := ha.vc i ver sz ys h1
    refine ⟨q0, q1, ?_⟩
    rcases q2 with q2 | ⟨b, o, us, T', k1, k2, k3, k4, k5, k6⟩
    · exact .inl q2
    · exact .inr ⟨b, o, us, T', k1, k2, k3, k4, k5, fun j x k y e1 e2 => by obtain ⟨v, e3, e4⟩ := k6 j x k y e1 e2; exact ⟨v, e3, e4.mono hM⟩⟩
  · have hget : ∀ {i : Nat} {y : PV}, (flat xs)[i]? = some y → M' ⟨w.heap.size, i, none⟩ = some (vs i) ∧ PRep M' y (vs i) := by
      intro i y hy
      have hi : i < (flat xs).length := (List.getElem?_eq_some_iff.1 hy).1
      refine ⟨?_, (hc i y hy).2.1.mono hM⟩
      show (if w.heap.size = w.heap.size ∧ (none : Option Nat) = none ∧ i < (flat xs).length then some (vs i) else _) = _
      rw [if_pos ⟨rfl, rfl, hi⟩]
    refine .lst xs _ cap sz (fun j k => vs (j * sz + k)) hsz hcap hs ?_ (by simp) ?_ ?_
    · intro x hx y hy
      obtain ⟨j, hj, rfl⟩ := List.mem_iff_getElem.1 hx
      obtain ⟨k, hk, rfl⟩ := List.mem_iff_getElem.1 hy
      exact (hc _ _ (flat_get hs (List.getElem?_eq_getElem hj) (List.getElem?_eq_getElem hk))).2.2
    · intro ad had j x k y h1 h2
      obtain rfl := Option.some.inj had
      rw [Addr.add_lit, Nat.zero_add]
      exact (hget (flat_get hs h1 h2)).1
    · intro j x k y h1 h2
      exact (hget (flat_get hs h1 h2)).2
end

section
variable {P : Program} {av : Av} {ty : TypeId}

theorem isStr_eq {d : Option TypeDesc} (h : isStr d = true) : d = some .string := by
  unfold isStr at h; split at h <;> first | rfl | cases h
theorem isU8_eq {d : Option TypeDesc} (h : isU8 d = true) : d = some (.int .u8) := by
  unfold isU8 at h; split at h <;> first | rfl | cases h

theorem flat_scalars {xs : List PV} (h : ∀ x, x ∈ xs → x.cells = [x]) : flat xs = xs := by
  induction xs with
  | nil => rfl
  | cons x xs ih => simp only [flat, List.flatMap_cons, h x (by simp)] at ih ⊢; rw [ih (fun y hy => h y (by simp [hy]))]; rfl

theorem run_bytes (w : World) {src dst e : TypeId} (hs : P.underlying src = some (.slice e)) (he : P.underlying e = some (.int .u8)) (hd : P.underlying dst = some .string) {A : Addr} {n c : Nat} {xs : List PV} (hl : xs.length = n)
    (hb : xs.all isByte = true) (hc : ∀ i p, xs[i]? = some p → ∃ u, w.cell? (A.add i) = some u ∧ ∃ M, PRep M p u) :
    (convert src dst (.slice (some A) n c)).run P w = .ok (.string (mkStr (xs.map toByte))) w := by
  have hcell : ∀ j v, (xs.map fun p => Value.int .u8 p.toInt)[j]? = some v → w.cell? (A.add j) = some v := by
    intro j v hv
    rw [List.getElem?_map] at hv
    cases hp : xs[j]? with
    | none => rw [hp] at hv; cases hv
    | some p =>
      rw [hp] at hv
      obtain rfl := Option.some.inj hv
      obtain ⟨u, h1, M, h2⟩ := hc j p hp
      have := List.all_eq_true.1 hb p (List.mem_of_getElem? hp)
      cases p <;> simp [isByte] at this
      rename_i k m
      cases k <;> simp at this
      rw [rep_int h2] at h1
      exact h1
  have hstr : strOfNums (xs.map PV.toInt) = mkStr (xs.map toByte) := by
    apply ByteArray.ext
    simp [strOfNums, mkStr, toByte]
  cases xs with
  | nil =>
    subst hl
    simp [convert, run_underlying hs, run_underlying hd, run_underlying he, Conv.bytesToString, loadCells, loadCellsFrom]
    rfl
  | cons x xs =>
    have hsp : A.spot = none := by
      have := hcell 0 _ rfl
      simp only [World.cell?, Addr.add_zero'] at this
      split at this
      · cases hA : A.spot with
        | none => rfl
        | some q => rw [hA] at this; simp at this
      · cases this
    obtain ⟨b, off, spot⟩ := A
    simp only at hsp
    subst hsp
    rw [← hstr]
    refine run_convert_bytes_arg w src e hs he b off n c _ (by simpa using hl) (fun i hi => ?_) dst hd
    have := hcell i (.int .u8 ((x :: xs)[i]'(by omega)).toInt) (by rw [List.getElem?_map, List.getElem?_eq_getElem (by omega)]; rfl)
    rw [Addr.add_lit] at this
    rw [this]
    have e : (List.map PV.toInt (x :: xs)).getD i 0 = ((x :: xs)[i]'(by omega)).toInt := by
      rw [List.getD_eq_getElem?_getD, List.getElem?_map, List.getElem?_eq_getElem (show i < (x :: xs).length by omega)]; rfl
    rw [e]

theorem s_conv (hT : TOk P) {ρ : Type} {src dst : TypeId} {y : Operand} {b : AV} {p : PV} (hy : av y = some b) (hp : ∀ G s u, ARel G s b u → PRep G.M p u) {K : PV → Option ρ} {r : ρ} (h : convPV P src dst p K = some r) :
    ∃ res, K res = some r ∧ Sound1 P (.convert src dst y) ty av (.pv res) := by
  unfold convPV at h
  split at h
  · rename_i d0 k k' n hs hd
    refine ⟨_, h, .val fun G st a w o _ hA ho _ => ⟨_, ?_, PRep.int _ _⟩⟩
    have := rep_int (hp G st _ (hA y b hy))
    simp [execOp, ho, convert, run_underlying hs, run_underlying hd, this, Conv.intToInt]
  · rename_i s hs hd
    refine ⟨_, h, .val fun G st a w o _ hA ho _ => ⟨_, ?_, PRep.str _⟩⟩
    have := rep_str (hp G st _ (hA y b hy))
    simp [execOp, ho, convert, run_underlying hs, run_underlying hd, this]
  · rename_i e xs hs hd
    cases hu : isU8 (P.underlying e) with
    | false => rw [hu] at h; cases h
    | true =>
      cases hb : xs.all isByte with
      | false => rw [hu, hb] at h; cases h
      | true =>
        rw [hu, hb] at h
        refine ⟨_, h, .val fun G st a w o hM hA ho _ => ⟨_, ?_, PRep.str _⟩⟩
        have hr := hp G st _ (hA y b hy)
        generalize hu' : a.eval y = u at hr
        cases hr with
        | lst xs A cap sz vs hsz hcap hss hone hA' hm hrr =>
          cases A with
          | none =>
            have : xs = [] := by cases xs with | nil => rfl | cons x xs => exact absurd rfl (hA' (by simp at hcap; omega))
            subst this
            have := run_convert_bytes_nil (P := P) w src e hs (isU8_eq hu) 0 cap dst hd
            simp [execOp, ho, hu', this]
            rfl
          | some ad =>
            have hone1 : ∀ x, x ∈ xs → x.cells = [x] := fun x hx => by
              have := List.all_eq_true.1 hb x hx
              cases x <;> simp [isByte] at this <;> rfl
            have := run_bytes (P := P) w hs (isU8_eq hu) hd (A := ad) (c := cap) rfl hb (fun i p hi => by
              have hsz1 : sz = 1 := by rw [← hss p (List.mem_of_getElem? hi), hone1 p (List.mem_of_getElem? hi)]; rfl
              have h0 : p.cells[0]? = some p := by rw [hone1 p (List.mem_of_getElem? hi)]; rfl
              have g1 := hm ad rfl i p 0 p hi h0
              rw [hsz1, Nat.mul_one, Nat.add_zero] at g1
              exact ⟨_, hM _ _ g1, _, hrr i p 0 p hi h0⟩)
            simp [execOp, ho, hu', this]
  · rename_i e s hs hd
    cases hu : isU8 (P.underlying e) && Nat.beq (sizeT P e) 1 with
    | false => rw [hu] at h; cases h
    | true =>
      cases hb : decide (s.length ≤ 2147483648) with
      | false => rw [hu, hb] at h; cases h
      | true =>
        rw [hu, hb] at h
        simp only [Bool.and_eq_true] at hu
        refine ⟨_, h, ?_⟩
        intro F w0 M0 G st a w o hS hA ho _
        have e1 := rep_str (hp G st _ (hA y b hy))
        have hrun := Lib.run_convert_string_bytes (P := P) w src dst e (mkStr s) hs hd (isU8_eq hu.1)
        have hbel : Below w.heap.size w (Lib.bytesWorld w e (mkStr s)) := ⟨rfl, rfl, rfl, by rw [Lib.bytesWorld_size]; omega, fun k hk => Lib.bytesWorld_at_old w e (mkStr s) k hk⟩
        have hfl : flat (s.map fun c => PV.int .u8 c.toNat) = s.map fun c => PV.int .u8 c.toNat := flat_scalars (fun x hx => by obtain ⟨c, _, rfl⟩ := List.mem_map.1 hx; rfl)
        obtain ⟨G', k1, k2, k3⟩ := hS.newPlainAt hbel (xs := s.map fun c => PV.int .u8 c.toNat) (sz := 1) (by omega) (fun x hx => by obtain ⟨c, _, rfl⟩ := List.mem_map.1 hx; rfl) (fun i => .int .u8 (s.getD i 0).toNat)
          (fun i p hi => by
            rw [hfl, List.getElem?_map] at hi
            cases hc : s[i]? with
            | none => rw [hc] at hi; cases hi
            | some c =>
              rw [hc] at hi
              obtain rfl := Option.some.inj hi
              have hlt : i < s.length := (List.getElem?_eq_some_iff.1 hc).1
              have hg : s.getD i 0 = c := by simp [List.getD_eq_getElem?_getD, hc]
              refine ⟨?_, by rw [hg]; exact .int _ _, rfl⟩
              have := Lib.bytesWorld_cell w e (mkStr s) i hlt
              simpa [mkStr] using this) (grownCap w s.length 0 e) (by simp; exact grownCap_ge w s.length 0 e)
        refine OpTo.value (u := .slice (some ⟨w.heap.size, 0, none⟩) s.length (grownCap w s.length 0 e)) (w' := Lib.bytesWorld w e (mkStr s)) ?_ ⟨G', k1, k2, ?_⟩
        · simp [execOp, ho, e1, hrun, size_mkStr]
        · show PRep _ _ _
          simpa using k3
  · cases h
end
end Go.AL
