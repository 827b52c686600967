/- slices.Delete is the primitive (draft). -/
import Derived.Test.YtlmodlihiglnhaaS6Del
import Derived.Test.YtlmodlihiglnhaaS6Cells
import Derived.Deep.MidRow
set_option linter.unusedVariables false
set_option linter.unusedSimpArgs false
set_option maxRecDepth 100000
namespace Go.AL.S6
open Go Go.AL
section
variable {F : Fr} {w0 : World} {M0 : Mem} {G : Gh} {s : St} {w : World}
theorem srel_drew (h : SRel F w0 M0 G s w) : SRel F w0 M0 G s w.drew :=
  ⟨h.os, h.tape, h.output, h.size, h.old, h.agree, h.base, h.newM, h.own, h.ownM, h.bx, h.vc, h.tp, h.rt, h.rv⟩
end
set_option maxHeartbeats 1000000 in
theorem del90_ok : ∀ args out, delP (.agg [.str [], .int .i64 0, .int .i64 0]) args = some out → args.all plainArg = true → CSpec Pr 90 args out := by
  intro args out h hpl
  have hbody : HasBody Pr 90 := ⟨Go.Proofs.Try.f90, Go.Proofs.Try.func90, rfl⟩
  unfold delP at h
  split at h
  · rename_i sz xs i j
    replace h := bif_some h; obtain ⟨h1, h⟩ := h
    simp only [Bool.and_eq_true] at h1
    obtain ⟨c1, c2, c3, c4⟩ := h1
    have e1 : sz = 3 := beq_eq c1
    subst e1
    have d2 := of_decide_eq_true c2
    have d3 := of_decide_eq_true c3
    have d4 := of_decide_eq_true c4
    obtain ⟨a, rfl⟩ : ∃ a : Nat, i = a := ⟨i.toNat, by omega⟩
    obtain ⟨b', rfl⟩ : ∃ b : Nat, j = b := ⟨j.toNat, by omega⟩
    obtain rfl := Option.some.inj h
    refine ⟨hbody, fun F M G w vs hS hFr => ?_⟩
    have hent : enter [.vec 3 xs, .pv (.int .i64 a), .pv (.int .i64 b')] = ([.vec 0 0, .pv (.int .i64 a), .pv (.int .i64 b')], ⟨[], [some (0, 3, xs)], [], 0, 1⟩) := rfl
    rw [hent] at hS hFr
    simp only at hS hFr
    obtain ⟨u0, u1, u2, rfl⟩ : ∃ u0 u1 u2, vs = #[u0, u1, u2] := by
      have := hFr.1
      simp at this
      match vs, this with
      | ⟨[u0, u1, u2]⟩, _ => exact ⟨u0, u1, u2, rfl⟩
    have hu0 : u0 = .slice (G.ν 0).A xs.length (G.ν 0).cap := ((hFr.2 0 _ u0 rfl rfl).2.2 0 (3, xs) rfl).2 rfl
    have hu1 : u1 = .int .i64 a := by
      have hp : PRep G.M (.int .i64 a) u1 := hFr.2 1 _ u1 rfl rfl
      cases hp; rfl
    have hu2 : u2 = .int .i64 b' := by
      have hp : PRep G.M (.int .i64 b') u2 := hFr.2 2 _ u2 rfl rfl
      cases hp; rfl
    subst hu1; subst hu2
    obtain ⟨⟨r0, r0'⟩, r1, r2⟩ := hS.vc 0 0 3 xs rfl
    rcases r2 with ⟨k1, k2, rfl⟩ | ⟨b, o, ws, T, k1, k2, k3, k4, k5, k6⟩
    · simp at d4; omega
    · rw [k1] at hu0
      subst hu0
      rw [r0] at k4 k6
      have hws : o + xs.length * 3 ≤ ws.size := by
        have : xs.length * 3 ≤ (G.ν 0).cap * 3 := Nat.mul_le_mul_right _ k5
        omega
      have hab : a < b' := by omega
      have hbn : b' ≤ xs.length := by omega
      have hval : ∀ t, t < xs.length * 3 → ∃ v y x, xs[t / 3]? = some x ∧ x.cells[t % 3]? = some y ∧ ws[o + t]? = some v ∧ PRep G.M y v ∧ v.oneCell' = true := by
        intro t ht
        have h1 : t / 3 < xs.length := by omega
        have hx := r1 xs[t / 3] (List.getElem_mem h1)
        rw [r0] at hx
        have h2 : t % 3 < xs[t / 3].cells.length := by rw [hx.1]; omega
        obtain ⟨v, g1, g2⟩ := k6 (t / 3) xs[t / 3] (t % 3) _ (List.getElem?_eq_getElem h1) (List.getElem?_eq_getElem h2)
        rw [show t / 3 * 3 + t % 3 = t by omega] at g1
        exact ⟨v, _, _, List.getElem?_eq_getElem h1, List.getElem?_eq_getElem h2, g1, g2, PRep.one g2 (hx.2 _ (List.getElem_mem h2))⟩
      obtain ⟨news, hnews⟩ : ∃ news, news = (ws.toList.drop (o + b' * 3)).take ((xs.length - b') * 3) := ⟨_, rfl⟩
      have hnl : news.length = (xs.length - b') * 3 := by rw [hnews]; simp; omega
      have hng : ∀ t, t < (xs.length - b') * 3 → news[t]? = ws[o + (b' * 3 + t)]? := by
        intro t ht
        rw [hnews, List.getElem?_take, if_pos ht, List.getElem?_drop, Array.getElem?_toList, Nat.add_assoc]
      have hn1 : ∀ u, u ∈ news → u.oneCell' = true := by
        intro u hu
        obtain ⟨t, ht, rfl⟩ := List.mem_iff_getElem.1 hu
        have h1 := hng t (by omega)
        rw [List.getElem?_eq_getElem ht] at h1
        obtain ⟨v, _, _, _, _, g1, _, g3⟩ := hval (b' * 3 + t) (by omega)
        rw [g1] at h1
        rw [Option.some.inj h1]; exact g3
      have hcell : ∀ t, t < xs.length * 3 → (w.drew.cell? ⟨b, o + t, none⟩) = ws[o + t]? ∧ w.drew.frozen? ⟨b, o + t, none⟩ = false := by
        intro t ht
        obtain ⟨v, _, _, _, _, g1, _, _⟩ := hval t ht
        refine ⟨?_, ?_⟩
        · show w.cell? _ = _
          simp [World.cell?, k3, g1]
        · show w.frozen? _ = _
          simp [World.frozen?, k3]
      obtain ⟨ws1, q1, q2, q3⟩ := setCells_row (b := b) (T := T) (z := (0, 0)) news (o + a * 3) w.drew ws k3 (by omega)
      obtain ⟨i0, hi0, hz1⟩ : ∃ i0, Pr.info? 111 = some i0 ∧ i0.size = 3 := by
        have h : (Pr.info? 111).map (·.size) = some 3 := by kernel_rfl
        cases hi : Pr.info? 111 with
        | none => rw [hi] at h; cases h
        | some i0 => rw [hi] at h; exact ⟨i0, rfl, Option.some.inj h⟩
      obtain ⟨cs, hcs⟩ : ∃ cs : Array Value, cs = #[.string ByteArray.empty, .int .i64 0, .int .i64 0] := ⟨_, rfl⟩
      have hy : ∀ w, (zeroValue 111).run Go.Proofs.Try.prog w = .ok (.agg cs) w := by rw [hcs]; exact Go.Proofs.Try.zeroValue111
      have hc3 : cs.size = 3 := by rw [hcs]; rfl
      have hzl : ∀ m, (Builtin.zeroCells cs m).toList.length = m * 3 := fun m => by simp [Builtin.zeroCells, hc3]
      have hzg : ∀ m t, t < m * 3 → (Builtin.zeroCells cs m).toList[t]? = some cs[t % 3]! := fun m t ht => by
        simp [Builtin.zeroCells, hc3, ht]
      have hz1' : ∀ t, cs[t % 3]!.oneCell' = true := fun t => by
        have : t % 3 = 0 ∨ t % 3 = 1 ∨ t % 3 = 2 := by omega
        rcases this with h | h | h <;> rw [h, hcs] <;> rfl
      have hzo : ∀ m, ∀ v ∈ (Builtin.zeroCells cs m).toList, v.oneCell' = true := fun m v hv => by
        obtain ⟨t, ht, rfl⟩ := List.mem_iff_getElem.1 hv
        have h1 := hzg m t (by rw [hzl] at ht; exact ht)
        rw [List.getElem?_eq_getElem ht] at h1
        rw [Option.some.inj h1]; exact hz1' t
      have hmm : xs.length - (a + (xs.length - b')) = b' - a := by omega
      have hsz1 : ∀ t, t < xs.length * 3 → ((w.drew.setCells b (o + a * 3) news).cell? ⟨b, o + t, none⟩).isSome = true ∧ (w.drew.setCells b (o + a * 3) news).frozen? ⟨b, o + t, none⟩ = false := fun t ht => by
        refine ⟨World.isSome_setCells b news _ _ _ ?_, by rw [World.frozen?_setCells]; exact (hcell t ht).2⟩
        rw [(hcell t ht).1]
        obtain ⟨v, _, _, _, _, g1, _, _⟩ := hval t ht
        rw [g1]; rfl
      have hcl : ∀ ty, (Builtin.clear_ #[56] ty #[.slice (some ⟨b, o + (a + (xs.length - b')) * 3, none⟩) (xs.length - (a + (xs.length - b'))) ((G.ν 0).cap - (a + (xs.length - b')))]).run Go.Proofs.Try.prog (w.drew.setCells b (o + a * 3) news) = .ok (.tuple #[]) ((w.drew.setCells b (o + a * 3) news).setCells b (o + (a + (xs.length - b')) * 3) (Builtin.zeroCells cs (xs.length - (a + (xs.length - b')))).toList) := fun ty =>
        Go.Proofs.run_clear_k _ 56 111 ty (.agg cs) Go.Proofs.Try.underlying56 hy b _ _ _ (by omega) (hzo _)
          (fun t ht0 => by have ht : t < _ := ht0; change t < (Builtin.zeroCells cs _).toList.length at ht; rw [hzl] at ht; rw [Nat.add_assoc]; exact (hsz1 _ (by omega)).1)
          (fun t ht0 => by have ht : t < _ := ht0; change t < (Builtin.zeroCells cs _).toList.length at ht; rw [hzl] at ht; rw [Nat.add_assoc]; exact (hsz1 _ (by omega)).2)
      obtain ⟨A, hA, hsrc⟩ : ∃ A : Addr, (if (G.ν 0).cap = b' then some (⟨b, o, none⟩ : Addr) else some ⟨b, o + b' * 3, none⟩) = some A ∧ ∀ t u, news[t]? = some u → w.drew.cell? (A.add t) = some u := by
        by_cases h : (G.ν 0).cap = b'
        · refine ⟨⟨b, o, none⟩, by simp [h], fun t u hu => ?_⟩
          have h0 : news.length = 0 := by rw [hnl]; omega
          rw [List.length_eq_zero_iff.1 h0] at hu
          simp at hu
        · refine ⟨⟨b, o + b' * 3, none⟩, by simp [h], fun t u hu => ?_⟩
          have ht : t < (xs.length - b') * 3 := by
            have := (List.getElem?_eq_some_iff.1 hu).1
            rwa [hnl] at this
          rw [hng t ht] at hu
          rw [Addr.add_lit, Nat.add_assoc, (hcell (b' * 3 + t) (by omega)).1]
          exact hu
      obtain ⟨ws2, p1, p2, p3⟩ := setCells_row (b := b) (T := T) (z := (0, 0)) (Builtin.zeroCells cs (xs.length - (a + (xs.length - b')))).toList (o + (a + (xs.length - b')) * 3) (w.drew.setRow b ws1) ws1 (setRow_heap w.drew b ws ws1 T (0, 0) k3) (by rw [hzl]; omega)
      have hcon := Go.Proofs.Try.delete90 b o (G.ν 0).cap xs.length a b' news w cs hy i0 hi0 hz1 hzo hzl k5 hab hbn hnl hn1 A hA hsrc (fun t ht => by
          rw [hnl] at ht
          have := hcell (a * 3 + t) (by omega)
          rw [Nat.add_assoc, this.1]
          obtain ⟨v, _, _, _, _, g1, _, _⟩ := hval (a * 3 + t) (by omega)
          exact ⟨by rw [g1]; rfl, this.2⟩) (w.drew.setCells b (o + a * 3) news) rfl hcl
      refine hcon.mono ?_
      rintro e w' ⟨rfl, rfl⟩
      rw [q1, p1, setRow_row]
      have upd := (srel_drew hS).updVec (xs' := xs.take a ++ xs.drop b' ++ List.replicate (b' - a) (.agg [.str [], .int .i64 0, .int .i64 0])) (vs' := ws2) rfl k1 k2 k3 (p2.trans q2) (by simp; omega) (fun x hx => by
          rw [List.mem_append, List.mem_append] at hx
          rcases hx with (hx | hx) | hx
          · have := r1 x (List.mem_of_mem_take hx); rw [r0] at this; exact this
          · have := r1 x (List.mem_of_mem_drop hx); rw [r0] at this; exact this
          · rw [List.eq_of_mem_replicate hx]; exact ⟨rfl, by simp [PV.cells, PV.one]⟩) (fun jx x k y h3 h4 => by
          by_cases g1 : jx < a
          · have hx : xs[jx]? = some x := by
              rw [List.getElem?_append_left (by simp; omega), List.getElem?_append_left (by simp; omega), List.getElem?_take, if_pos g1] at h3
              exact h3
            obtain ⟨v, e1, e2⟩ := k6 jx x k y hx h4
            have hk : k < 3 := by
              have h5 := (List.getElem?_eq_some_iff.1 h4).1
              have h6 := (r1 x (List.mem_of_getElem? hx)).1
              rw [r0] at h6; omega
            refine ⟨v, ?_, e2⟩
            rw [p3, if_neg (by omega), q3, if_neg (by omega)]
            exact e1
          · by_cases g2 : jx < a + (xs.length - b')
            · have hx : xs[b' + (jx - a)]? = some x := by
                rw [List.getElem?_append_left (by simp; omega), List.getElem?_append_right (by simp; omega), List.getElem?_drop] at h3
                rw [← h3]; congr 1; simp; omega
              obtain ⟨v, e1, e2⟩ := k6 _ x k y hx h4
              have hk : k < 3 := by
                have h5 := (List.getElem?_eq_some_iff.1 h4).1
                have h6 := (r1 x (List.mem_of_getElem? hx)).1
                rw [r0] at h6; omega
              refine ⟨v, ?_, e2⟩
              rw [p3, if_neg (by omega), q3, if_pos (by rw [hnl]; omega), hng _ (by omega)]
              rw [← e1]; congr 1; omega
            · have g3 : jx < xs.length := by
                have := (List.getElem?_eq_some_iff.1 h3).1
                simp at this
                omega
              have hx : x = .agg [.str [], .int .i64 0, .int .i64 0] := by
                rw [List.getElem?_append_right (by simp; omega)] at h3
                exact List.eq_of_mem_replicate (List.mem_of_getElem? h3)
              subst hx
              have hk : k < 3 := (List.getElem?_eq_some_iff.1 h4).1
              refine ⟨cs[k]!, ?_, ?_⟩
              · rw [p3, if_pos (by rw [hzl]; omega), hzg _ _ (by omega), show (o + (jx * 3 + k) - (o + (a + (xs.length - b')) * 3)) % 3 = k by omega]
              · rw [hcs]
                match k, hk, h4 with
                | 0, _, h4 => obtain rfl := Option.some.inj h4; exact .str []
                | 1, _, h4 => obtain rfl := Option.some.inj h4; exact .int .i64 0
                | 2, _, h4 => obtain rfl := Option.some.inj h4; exact .int .i64 0)
      refine ⟨_, G, _, rfl, upd.1, ?_, ?_⟩
      · refine ⟨0, xs.length - (b' - a), ?_, 3, _, Nat.one_pos, rfl, ?_⟩
        · simp only [List.cons.injEq, PV.int.injEq, true_and, and_true]
          exact ⟨rfl, by omega⟩
        · refine ⟨by simp, ⟨_, _, _, rfl⟩, fun cur ys hc => ?_⟩
          have hc' : some (some (0, 3, xs.take a ++ xs.drop b' ++ List.replicate (b' - a) (PV.agg [.str [], .int .i64 0, .int .i64 0]))) = some (some (cur, ys)) := hc
          simp only [Option.some.injEq, Prod.mk.injEq] at hc'
          obtain ⟨rfl, rfl⟩ := hc'
          refine ⟨Nat.le_refl _, fun _ => ⟨Nat.zero_le _, by simp; omega, ?_⟩⟩
          have hw : winA (G.ν 0) 0 = some ⟨b, o, none⟩ := by unfold winA; rw [k1]; split <;> simp [Addr.add]
          rw [hw]
          rfl
      · rw [show ((a : Nat) : Int).toNat = a from Int.toNat_natCast a, show ((b' : Nat) : Int).toNat = b' from Int.toNat_natCast b', show (((b' : Nat) : Int) - ((a : Nat) : Int)).toNat = b' - a by omega]
        rfl
  · cases h
end Go.AL.S6
