/- A vector that is appended to. -/
import Derived.Test.YtlmodlihiglnhaaALxa
set_option linter.unusedVariables false
set_option linter.unusedSimpArgs false
namespace Go.AL
open Go.RowKit

/-- A vector's elements, cell by cell. -/
theorem vec_cells {M : Mem} {xs : List PV} {sz of : Nat} {vs : Array Value} (hs : ∀ x, x ∈ xs → x.cells.length = sz ∧ ∀ y, y ∈ x.cells → y.one = true) (hfit : of + xs.length * sz ≤ vs.size)
    (hc : ∀ j x k y, xs[j]? = some x → x.cells[k]? = some y → ∃ v, vs[of + (j * sz + k)]? = some v ∧ PRep M y v) : CRel M (flat xs) ((vs.toList.drop of).take (xs.length * sz)) := by
  have hl := length_flat (sz := sz) (xs := xs) fun x hx => (hs x hx).1
  refine ⟨by rw [hl]; simp; omega, fun i p v h1 h2 => ?_⟩
  have hi : i < (flat xs).length := (List.getElem?_eq_some_iff.1 h1).1
  rw [hl] at hi
  have hsz : 0 < sz := by rcases Nat.eq_zero_or_pos sz with h | h; · rw [h] at hi; omega
                          · exact h
  have hj : i / sz < xs.length := Nat.div_lt_of_lt_mul (by rw [Nat.mul_comm]; exact hi)
  have hx := List.getElem?_eq_getElem hj
  have hxm := hs _ (List.getElem_mem hj)
  have hk : i % sz < (xs[i / sz]).cells.length := by rw [hxm.1]; exact Nat.mod_lt _ hsz
  have hy := List.getElem?_eq_getElem hk
  have hfg := flat_get (sz := sz) (fun x hx => (hs x hx).1) hx hy
  rw [show i / sz * sz + i % sz = i by rw [Nat.mul_comm]; exact Nat.div_add_mod _ _] at hfg
  rw [h1] at hfg
  obtain rfl := Option.some.inj hfg
  obtain ⟨u, g1, g2⟩ := hc _ _ _ _ hx hy
  rw [show i / sz * sz + i % sz = i by rw [Nat.mul_comm]; exact Nat.div_add_mod _ _] at g1
  rw [List.getElem?_take_of_lt hi, List.getElem?_drop] at h2
  have : vs[of + i]? = some v := by simpa using h2
  rw [g1] at this
  obtain rfl := Option.some.inj this
  exact ⟨g2, hxm.2 _ (List.getElem_mem hk)⟩

section
variable {P : Program} {ty : TypeId} {av : Av} {s : St}

theorem s_append_vec (hT : TOk P) {c : Call} {t e : TypeId} {z : PV} {y x : Operand} {b : AV} {j ver sz : Nat} {xs ys : List PV} (hc : c.callee = .builtin .append) (ha : c.args = #[y, x]) (ht : c.argTypes = #[t, t]) (h1 : elemT P t = some e) (h2 : zeroPV P e = some z)
    (hy : av y = some (.vec j ver)) (hx : av x = some b) (hl : b.list = some ys) (hj : s.vc[j]? = some (some (ver, sz, xs))) (hsz : sz = sizeT P e) (hb : bytesT P e ≤ 65536) (hb0 : 0 < bytesT P e) (hh : headOk sz ys = true) (hsm : (xs.length + ys.length) * bytesT P e ≤ 141000000000000) :
    Sound2 P (.call c) ty av s (.vec j (ver + 1)) { s with vc := s.vc.set j (some (ver + 1, sz, xs ++ ys)) } := by
  intro F w0 M0 G a w o hS hA ho hty
  obtain ⟨hjl, _, g3⟩ := hA y _ hy
  have k1 := (g3 _ _ hj).2 rfl
  simp only at k1
  have hrep := list_rel (hA x b hx) hl
  obtain ⟨ti, zv, hti, hz, _, hof, hzs⟩ := run_zeroPV hT h2 w
  have hse := sizeT_of hti
  have hbe : bytesT P e = ti.bytes := by simp [bytesT, hti]
  obtain ⟨A', c', ex⟩ := rep_lst hrep
  rw [ex] at hrep
  have hys := headOk_all hrep hh
  have hrun0 : (execOp a.eval o).run P w = ((Builtin.append_ #[t, t] ty #[a.eval y, .slice A' ys.length c']).run P w).andThen fun u w' => .ok (.value u) w' := by
    simp [execOp, ho, resolve, hc, ha, invoke, builtin, ht, ex, hty]
  obtain ⟨⟨r0, r0'⟩, r1, r2⟩ := hS.vc j ver sz xs hj
  rw [r0] at r0'
  have r1' : ∀ x, x ∈ xs → x.cells.length = sz ∧ ∀ y, y ∈ x.cells → y.one = true := fun x hx => by rw [← r0]; exact r1 x hx
  have hat := VcAt.set hj (ver + 1, sz, xs ++ ys) (by simp)
  by_cases hne : ys = []
  · subst hne
    simp only [List.length_nil] at hrun0
    simp only [List.append_nil] at hat ⊢
    rcases r2 with ⟨q1, q2, rfl⟩ | ⟨b', of, vs, T, q1, q2, q3, q4, q5, q6⟩
    · rw [k1, q1, q2, run_append_none w (elemT_eq h1) (info_of hti) (by simp)] at hrun0
      obtain ⟨m1, m2, m3⟩ := hS.reVecNil (ver := ver + 1) hj (by omega) q1 q2
      exact OpTo.value hrun0 ⟨G, m1, m2, m3⟩
    · rw [k1, q1, run_append_none w (elemT_eq h1) (info_of hti) q5] at hrun0
      obtain ⟨G', m1, m2, m3⟩ := hS.reVec hat (o' := of) (cap' := (G.ν j).cap) (vs' := vs) q2 q3 r0' (by rw [← r0]; exact q4) q5 r1' (fun j' x k y e1 e2 => by rw [← r0]; exact q6 j' x k y e1 e2)
      rw [setRow_self w b' vs T (0, 0) q3] at m1
      exact OpTo.value hrun0 ⟨G', m1, m2, m3⟩
  · obtain ⟨ad', us, rfl, hpos, hcu, hul, hM⟩ := lst_cells hrep hys hne
    have hyl : 0 < ys.length := List.length_pos_iff.2 hne
    have hnews : ∀ (j : Nat) u, us[j]? = some u → w.cell? (ad'.add j) = some u := fun j u hj => hS.agree _ _ (hM j u hj)
    have hbytes : (xs.length + ys.length) * ti.bytes ≤ 141000000000000 := by rw [← hbe]; exact hsm
    have hcount : xs.length + ys.length ≤ 141000000000000 := Nat.le_trans (Nat.le_mul_of_pos_right _ (by omega)) hbytes
    have hwide : (xs.length + ys.length + (xs.length + ys.length) / 4 + 192) * ti.bytes ≤ 281474976710656 := by
      have h4 : (xs.length + ys.length) / 4 * ti.bytes ≤ 35250000000000 := by
        have : (xs.length + ys.length) / 4 * ti.bytes * 4 ≤ (xs.length + ys.length) * ti.bytes := by
          rw [Nat.mul_assoc, Nat.mul_comm ti.bytes 4, ← Nat.mul_assoc]
          exact Nat.mul_le_mul_right _ (Nat.div_mul_le_self _ _)
        omega
      have h5 : 192 * ti.bytes ≤ 192 * 65536 := Nat.mul_le_mul_left _ (by omega)
      rw [Nat.add_mul, Nat.add_mul]
      omega
    have fin : ∀ (old : List Value) (cp : Nat), CRel G.M (flat xs) old → xs.length + ys.length ≤ grownCap w (xs.length + ys.length) cp e → (Builtin.append_ #[t, t] ty #[a.eval y, .slice (some ad') ys.length c']).run P w = .ok (.slice (some ⟨w.heap.size, 0, none⟩) (xs.length + ys.length) (grownCap w (xs.length + ys.length) cp e))
        (w.drew.alloc (.cells (old.toArray ++ us.toArray ++ Builtin.zeroCells zv.cells (grownCap w (xs.length + ys.length) cp e - (xs.length + ys.length))) e)) →
        OpTo P o a w fun u w' => ∃ G', SRel F w0 M0 G' { s with vc := s.vc.set j (some (ver + 1, sz, xs ++ ys)) } w' ∧ Ext G s G' { s with vc := s.vc.set j (some (ver + 1, sz, xs ++ ys)) } ∧ ARel G' { s with vc := s.vc.set j (some (ver + 1, sz, xs ++ ys)) } (.vec j (ver + 1)) u := by
      intro old cp ho1 hge hrun
      rw [hrun] at hrun0
      have hall : ∀ x, x ∈ xs ++ ys → x.cells.length = sz := fun x hx => by rcases List.mem_append.1 hx with hx | hx <;> first | exact (r1' x hx).1 | exact hys x hx
      have hcr := ho1.append hcu
      rw [← flat_append] at hcr
      have hfl := length_flat hall
      have hlen : old.length + us.length = (xs.length + ys.length) * sz := by have := hcr.1; rw [hfl] at this; simpa using this
      obtain ⟨G', m3, m4, m5⟩ := hS.drew.rowVec hat (xs := xs ++ ys) (cap := grownCap w (xs.length + ys.length) cp e) (vs := old.toArray ++ us.toArray ++ Builtin.zeroCells zv.cells (grownCap w (xs.length + ys.length) cp e - (xs.length + ys.length))) r0' hall e (by
          simp only [Array.size_append, List.size_toArray, size_zeroCells, hlen, hzs, ← hse, ← hsz]
          rw [← Nat.add_mul, show xs.length + ys.length + (grownCap w (xs.length + ys.length) cp e - (xs.length + ys.length)) = grownCap w (xs.length + ys.length) cp e by omega]
          exact Nat.le_refl _) (by simpa using hge) (fun k p u h3 h4 => by
          have hk : k < (flat (xs ++ ys)).length := (List.getElem?_eq_some_iff.1 h3).1
          rw [Array.getElem?_append_left (by simp only [Array.size_append, List.size_toArray]; rw [hlen, ← List.length_append, ← hfl]; exact hk)] at h4
          exact hcr.2 k p u h3 (by simpa using h4))
      rw [List.length_append] at m5
      exact OpTo.value hrun0 ⟨G', m3, m4, m5⟩
    rcases r2 with ⟨q1, q2, rfl⟩ | ⟨b', of, vs, T, q1, q2, q3, q4, q5, q6⟩
    · simp only [List.length_nil, Nat.zero_add] at hcount fin hbytes
      rw [q1, q2] at k1
      have := run_append_nil (P := P) w t ty e ti zv (elemT_eq h1) (info_of hti) hz ad' ys.length c' us (by rw [hul, hsz, hse]) hnews hyl (by omega) (by omega)
      simp only [List.length_nil] at k1
      rw [← k1] at this
      refine fin [] 0 ⟨rfl, by simp [flat]⟩ (grownCap_ge w ys.length 0 e) ?_
      simpa using this
    · rw [q1] at k1
      rw [r0] at q4 q6
      have hxfit : of + xs.length * sz ≤ vs.size := by have := Nat.mul_le_mul_right sz q5; omega
      by_cases hroom : xs.length + ys.length ≤ (G.ν j).cap
      · have hfit : of + xs.length * sz + us.length ≤ vs.size := by
          rw [hul, Nat.add_assoc, ← Nat.add_mul]
          have := Nat.mul_le_mul_right sz hroom; omega
        rw [k1, run_append_in w (elemT_eq h1) (info_of hti) (A := ⟨b', of, none⟩) rfl q3 (by rw [hul, hsz, hse]) hnews (crel_one hcu) hroom (by simp only; rw [← hse, ← hsz]; exact hfit)] at hrun0
        simp only at hrun0
        rw [← hse, ← hsz] at hrun0
        have hall : ∀ x, x ∈ xs ++ ys → x.cells.length = sz ∧ ∀ y, y ∈ x.cells → y.one = true := fun x hx => by
          rcases List.mem_append.1 hx with hx | hx
          · exact r1' x hx
          · refine ⟨hys x hx, fun y hy => ?_⟩
            obtain ⟨i, hi, rfl⟩ := List.mem_iff_getElem.1 hx
            obtain ⟨k, hk, rfl⟩ := List.mem_iff_getElem.1 hy
            have hfg := flat_get hys (List.getElem?_eq_getElem hi) (List.getElem?_eq_getElem hk)
            have hlt := (List.getElem?_eq_some_iff.1 hfg).1
            exact (hcu.2 _ _ _ hfg (List.getElem?_eq_getElem (by rw [hcu.1]; exact hlt))).2
        obtain ⟨G', m1, m2, m3⟩ := hS.reVec hat (o' := of) (cap' := (G.ν j).cap) (vs' := splice vs (of + xs.length * sz) us) q2 q3 r0' (by rw [size_splice hfit]; exact q4) (by simpa using hroom) hall (fun j' x k y e1 e2 => by
          have hk : k < sz := by rw [← (hall x (List.mem_of_getElem? e1)).1]; exact (List.getElem?_eq_some_iff.1 e2).1
          by_cases hj' : j' < xs.length
          · rw [List.getElem?_append_left hj'] at e1
            obtain ⟨v, e3, e4⟩ := q6 j' x k y e1 e2
            refine ⟨v, ?_, e4⟩
            rw [splice_old hfit (.inl ?_)]
            · exact e3
            · have : (j' + 1) * sz ≤ xs.length * sz := Nat.mul_le_mul_right _ hj'
              rw [Nat.add_mul] at this
              omega
          · rw [List.getElem?_append_right (by omega)] at e1
            have hfg := flat_get hys e1 e2
            have hlt := (List.getElem?_eq_some_iff.1 hfg).1
            have hul' : (j' - xs.length) * sz + k < us.length := by rw [hcu.1]; exact hlt
            refine ⟨us[(j' - xs.length) * sz + k], ?_, (hcu.2 _ _ _ hfg (List.getElem?_eq_getElem hul')).1⟩
            have : of + (j' * sz + k) = of + xs.length * sz + ((j' - xs.length) * sz + k) := by
              have : j' * sz = xs.length * sz + (j' - xs.length) * sz := by rw [← Nat.add_mul]; congr 1; omega
              omega
            rw [this, splice_new hfit hul']
            exact List.getElem?_eq_getElem hul')
        rw [List.length_append] at m3
        exact OpTo.value hrun0 ⟨G', m1, m2, m3⟩
      · have ho := vec_cells r1' hxfit q6
        have := run_append_grow (P := P) w t ty e ti zv (elemT_eq h1) (info_of hti) hz ⟨b', of, none⟩ xs.length (G.ν j).cap ((vs.toList.drop of).take (xs.length * sz)) (by simp; rw [← hse, ← hsz]; omega) (fun i u hi => by
          have hil : i < xs.length * sz := by
            have := (List.getElem?_eq_some_iff.1 hi).1
            simp at this; omega
          rw [List.getElem?_take_of_lt hil, List.getElem?_drop] at hi
          have hi' : vs[of + i]? = some u := by simpa using hi
          rw [Addr.add_lit]
          simp [World.cell?, q3, hi']) ad' ys.length c' us (by rw [hul, hsz, hse]) hnews (by omega) (by omega) (growslice_fits_wide (by omega) hwide)
        rw [← k1] at this
        exact fin _ _ ho (grownCap_ge w _ _ e) this
end
end Go.AL
