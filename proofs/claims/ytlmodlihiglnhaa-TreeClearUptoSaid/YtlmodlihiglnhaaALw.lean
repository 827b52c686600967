/- Operations on the store: vectors, closures over variables, and what is handed to a call. -/
import Derived.Test.YtlmodlihiglnhaaALv
set_option linter.unusedVariables false
set_option linter.unusedSimpArgs false
namespace Go.AL
open Go.RowKit

section
variable {P : Program} {ty : TypeId} {av : Av} {s : St}

theorem s_append_nil (hT : TOk P) {c : Call} {t e : TypeId} {z : PV} {y x : Operand} {b : AV} {ys : List PV} (hc : c.callee = .builtin .append) (ha : c.args = #[y, x]) (ht : c.argTypes = #[t, t]) (h1 : elemT P t = some e) (h2 : zeroPV P e = some z)
    (hy : av y = some (.pv .nils)) (hx : av x = some b) (hl : b.list = some ys) (hb : bytesT P e ≤ 65536) (hpos : 0 < sizeT P e) (hb0 : 0 < bytesT P e) (hh : headOk (sizeT P e) ys = true) (hsm : ys.length * bytesT P e ≤ 141000000000000) :
    Sound2 P (.call c) ty av s (.bld s.tp.length 0 ys) { s with tp := s.tp ++ [(0, sizeT P e)] } := by
  intro F w0 M0 G a w o hS hA ho hty
  have k1 := rep_nils (hA y _ hy)
  have hrep := list_rel (hA x b hx) hl
  obtain ⟨ti, zv, hti, hz, _, hof, hzs⟩ := run_zeroPV hT h2 w
  have hse := sizeT_of hti
  have hbe : bytesT P e = ti.bytes := by simp [bytesT, hti]
  obtain ⟨A', c', ex⟩ := rep_lst hrep
  rw [ex] at hrep
  have hys := headOk_all hrep hh
  have hrun0 : (execOp a.eval o).run P w = ((Builtin.append_ #[t, t] ty #[.slice none 0 0, .slice A' ys.length c']).run P w).andThen fun u w' => .ok (.value u) w' := by
    simp [execOp, ho, resolve, hc, ha, invoke, builtin, ht, ex, hty, k1]
  by_cases hne : ys = []
  · subst hne
    simp only [List.length_nil] at hrun0
    rw [run_append_none w (elemT_eq h1) (info_of hti) (by omega)] at hrun0
    obtain ⟨G', q1, q2, q3⟩ := hS.newTip (sizeT P e) hpos
    exact OpTo.value hrun0 ⟨G', q1, q2, q3 _ .nils⟩
  · obtain ⟨ad', us, rfl, _, hcu, hul, hM⟩ := lst_cells hrep hys hne
    have hyl : 0 < ys.length := List.length_pos_iff.2 hne
    have hnews : ∀ (j : Nat) u, us[j]? = some u → w.cell? (ad'.add j) = some u := fun j u hj => hS.agree _ _ (hM j u hj)
    have hbytes : ys.length * ti.bytes ≤ 141000000000000 := by rw [← hbe]; exact hsm
    have hcount : ys.length ≤ 141000000000000 := Nat.le_trans (Nat.le_mul_of_pos_right _ (by omega)) hbytes
    rw [run_append_nil (P := P) w t ty e ti zv (elemT_eq h1) (info_of hti) hz ad' ys.length c' us (by rw [hul, hse]) hnews hyl (by omega) (by omega)] at hrun0
    have hge := grownCap_ge w ys.length 0 e
    obtain ⟨G', m3, m4, m5⟩ := hS.drew.rowBld (TpAt.push s (0, sizeT P e)) (xs := ys) (cap := grownCap w ys.length 0 e) (vs := us.toArray ++ Builtin.zeroCells zv.cells (grownCap w ys.length 0 e - ys.length)) hpos hys e (by
        simp only [Array.size_append, List.size_toArray, size_zeroCells, hul, hzs, ← hse]
        rw [← Nat.add_mul, show ys.length + (grownCap w ys.length 0 e - ys.length) = grownCap w ys.length 0 e by omega]
        exact Nat.le_refl _) hge (fun k p u h3 h4 => by
        have hk : k < (flat ys).length := (List.getElem?_eq_some_iff.1 h3).1
        rw [Array.getElem?_append_left (by simp only [List.size_toArray]; rw [hul, ← length_flat hys]; exact hk)] at h4
        exact hcu.2 k p u h3 (by simpa using h4))
    exact OpTo.value hrun0 ⟨G', m3, m4, m5⟩

/-! ### Vectors -/
theorem s_index_vec (hT : TOk P) {t e : TypeId} {y x : Operand} {j ver sz : Nat} {xs : List PV} {i : Int} (h1 : elemT P t = some e) (hy : av y = some (.vec j ver)) (hx : av x = some (.pv (.int .i64 i))) (hj : s.vc[j]? = some (some (ver, sz, xs))) (hsz : sz = sizeT P e)
    (h0 : 0 ≤ i) (hlt : i < xs.length) : Sound2 P (.indexAddr t y x) ty av s (.elt j ver i.toNat 0) s := by
  intro F w0 M0 G a w o hS hA ho _
  obtain ⟨g1, _, g3⟩ := hA y _ hy
  have g4 := (g3 _ _ hj).2 rfl
  simp only at g4
  have e2 := rep_int (hA x _ hx)
  obtain ⟨⟨r0, r0'⟩, r1, r2⟩ := hS.vc j ver sz xs hj
  rcases r2 with ⟨_, _, rfl⟩ | ⟨b, of, vs, T, q1, q2, q3, q4, q5, q6⟩
  · simp at hlt; omega
  · cases hti : P.types[e]? with
    | none => simp [sizeT, hti] at hsz; omega
    | some ti =>
      have hse := sizeT_of hti
      rw [q1] at g4
      have hrun : (execOp a.eval o).run P w = .ok (.value (.pointer (some ((⟨b, of, none⟩ : Addr).add (i.toNat * ti.size))))) w := by
        simp only [execOp, ho, Instr.indexAt]
        simp [g4, e2, asIntOf, run_underlying (elemT_eq h1), run_sizeOf' hti, h0, hlt]
      refine OpTo.value hrun ⟨G, hS, Ext.refl _ _, g1, ⟨_, rfl⟩, fun cur ys hc => ?_⟩
      rw [hj] at hc
      simp only [Option.some.injEq, Prod.mk.injEq] at hc
      obtain ⟨rfl, rfl⟩ := hc
      exact ⟨Nat.le_refl _, fun _ => ⟨_, q1, by rw [r0, hsz, hse, Nat.add_zero]⟩⟩

theorem s_len_vec {c : Call} {y : Operand} {t e : TypeId} {j ver sz : Nat} {xs : List PV} (hc : c.callee = .builtin .len) (ha : c.args = #[y]) (ht : c.argTypes[0]? = some t) (hu : P.underlying t = some (.slice e)) (hy : av y = some (.vec j ver))
    (hj : s.vc[j]? = some (some (ver, sz, xs))) : Sound2 P (.call c) ty av s (.pv (.int .i64 xs.length)) s := by
  intro F w0 M0 G a w o hS hA ho _
  obtain ⟨g1, _, g3⟩ := hA y _ hy
  have g4 := (g3 _ _ hj).2 rfl
  simp only at g4
  exact OpTo.value (u := .int .i64 xs.length) (by simp [execOp, ho, resolve, hc, ha, invoke, builtin, Builtin.len_, ht, run_underlying hu, g4, goInt]) ⟨G, hS, Ext.refl _ _, .int _ _⟩

/-- A part of a vector. -/
theorem s_slice_vec (hT : TOk P) {t e : TypeId} {y : Operand} {lo hi : Option Operand} {l h : Option Int} {j ver sz : Nat} {xs : List PV} (h1 : elemT P t = some e) (hy : av y = some (.vec j ver)) (hl : bound av lo = some l) (hh : bound av hi = some h)
    (hj : s.vc[j]? = some (some (ver, sz, xs))) (hsz : sz = sizeT P e) (hb : okB xs.length l h) :
    Sound2 P (.slice t y lo hi none) ty av s (.vec j (ver + 1)) { s with vc := s.vc.set j (some (ver + 1, sz, (xs.take (hi0 h xs.length)).drop (lo0 l))) } := by
  intro F w0 M0 G a w o hS hA ho _
  obtain ⟨g1, _, g3⟩ := hA y _ hy
  have g4 := (g3 _ _ hj).2 rfl
  simp only at g4
  obtain ⟨⟨r0, r0'⟩, r1, r2⟩ := hS.vc j ver sz xs hj
  cases hti : P.types[e]? with
  | none => simp [sizeT, hti] at hsz; omega
  | some ti =>
    have hse := sizeT_of hti
    obtain ⟨b1, b2, b3⟩ := hb
    have hh' : hi0 h xs.length ≤ xs.length := by unfold hi0; omega
    have hl' : lo0 l ≤ hi0 h xs.length := by unfold hi0 lo0; omega
    have hlen : ((xs.take (hi0 h xs.length)).drop (lo0 l)).length = hi0 h xs.length - lo0 l := by simp; omega
    rcases r2 with ⟨q1, q2, rfl⟩ | ⟨b, of, vs, T, q1, q2, q3, q4, q5, q6⟩
    · rw [q1, q2] at g4
      have hrun := run_slice h1 hti hA g4 (Nat.le_refl _) hl hh ⟨b1, b2, b3⟩ w ho
      obtain ⟨k1, k2, k3⟩ := hS.reVecNil (ver := ver + 1) hj (by omega) q1 q2
      have hz : hi0 h 0 = 0 := by simpa using hh'
      have hz2 : lo0 l = 0 := by rw [show ([] : List PV).length = 0 from rfl, hz] at hl'; omega
      simp only [List.length_nil, hz, hz2] at hrun ⊢
      refine OpTo.value hrun ⟨G, by simpa using k1, by simpa using k2, by simpa using k3⟩
    · rw [q1] at g4
      have hrun := run_slice h1 hti hA g4 q5 hl hh ⟨b1, b2, b3⟩ w ho
      let of' := if (G.ν j).cap = lo0 l then of else of + lo0 l * ti.size
      have hA' : (if (G.ν j).cap = lo0 l then some (⟨b, of, none⟩ : Addr) else (some (⟨b, of, none⟩ : Addr)).map (·.add (lo0 l * ti.size))) = some ⟨b, of', none⟩ := by
        simp only [of']
        split
        · rfl
        · simp [Addr.add_lit]
      rw [hA'] at hrun
      have hcap : of' + ((G.ν j).cap - lo0 l) * sz ≤ vs.size := by
        simp only [of']
        rw [r0] at q4
        split
        · rename_i hc; rw [hc]; simp; have := q4; rw [hc] at this; omega
        · have : lo0 l * sz + ((G.ν j).cap - lo0 l) * sz = (G.ν j).cap * sz := by rw [← Nat.add_mul]; congr 1; omega
          rw [← hse, ← hsz]; omega
      obtain ⟨G', k1, k2, k3⟩ := hS.reVec (VcAt.set hj (ver + 1, sz, (xs.take (hi0 h xs.length)).drop (lo0 l)) (by simp)) (b := b) (o' := of') (cap' := (G.ν j).cap - lo0 l) (vs := vs) (vs' := vs) (T := T) q2 q3 (by omega) hcap (by rw [hlen]; omega)
        (fun x hx => by rw [← r0]; exact r1 x (List.mem_of_mem_take (List.mem_of_mem_drop hx))) (fun j' x k' y' e1 e2 => by
          have hj' : j' < ((xs.take (hi0 h xs.length)).drop (lo0 l)).length := (List.getElem?_eq_some_iff.1 e1).1
          rw [hlen] at hj'
          rw [List.getElem?_drop, List.getElem?_take_of_lt (by omega)] at e1
          obtain ⟨v, e3, e4⟩ := q6 _ x k' y' e1 e2
          refine ⟨v, ?_, e4⟩
          have hne : ¬ (G.ν j).cap = lo0 l := by omega
          simp only [of', if_neg hne]
          rw [r0] at e3
          rw [← e3, ← hse, ← hsz, Nat.add_mul]
          congr 1
          omega)
      rw [setRow_self w b vs T (0, 0) q3] at k1
      rw [hlen] at k3
      exact OpTo.value hrun ⟨G', k1, k2, k3⟩

/-! ### Closures -/
theorem rep_one {M : Mem} {p : PV} {v : Value} (h : PRep M p v) (hv : v.oneCell' = true) : p.one = true := by
  cases h <;> first | rfl | (simp [Value.oneCell'] at hv)

variable {F : Nat → Prop} {w0 : World} {M0 : Mem} {w : World}

theorem capture_rel {G : Gh} (hS : SRel F w0 M0 G s w) {b : AV} {u : Value} {p : PV} {s' : St} (hr : ARel G s b u) (h : capture b s = some (p, s')) : ∃ G', SRel F w0 M0 G' s' w ∧ Ext G s G' s' ∧ PRep G'.M p u := by
  unfold capture at h
  split at h
  · rename_i i
    split at h
    · rename_i z cs hi
      split at h
      · rename_i ps hps
        simp only [Option.some.injEq, Prod.mk.injEq] at h
        obtain ⟨rfl, rfl⟩ := h
        obtain ⟨hil, bl, hb, rfl⟩ := hr
        obtain ⟨p1, p2, p3, vs, T, p4, p5, p6⟩ := hS.bx i z cs bl hi hb
        obtain ⟨q1, q2⟩ := toPVs_get hps
        refine hS.freeze hi hb hps fun p hp => ?_
        obtain ⟨k, hk, rfl⟩ := List.mem_iff_getElem.1 hp
        have hk2 : k < cs.length := by omega
        obtain ⟨p', e1, e2⟩ := q2 k cs[k] (List.getElem?_eq_getElem hk2)
        rw [List.getElem?_eq_getElem hk] at e1
        obtain rfl := Option.some.inj e1
        have := p6 k cs[k] vs[k] (List.getElem?_eq_getElem hk2) (Array.getElem?_eq_getElem (by omega))
        exact rep_one (toPV_rel this.1 e2) this.2
      · cases h
    · cases h
  · split at h
    · rename_i p' hp
      simp only [Option.some.injEq, Prod.mk.injEq] at h
      obtain ⟨rfl, rfl⟩ := h
      exact ⟨G, hS, Ext.refl _ _, toPV_rel hr hp⟩
    · cases h

theorem captures_rel : ∀ {l : List AV} {us : List Value} {ps : List PV} {s s' : St} {G : Gh}, SRel F w0 M0 G s w → us.length = l.length → (∀ (i : Nat) b u, l[i]? = some b → us[i]? = some u → ARel G s b u) → captures l s = some (ps, s') →
    ∃ G', SRel F w0 M0 G' s' w ∧ Ext G s G' s' ∧ us.length = ps.length ∧ ∀ (i : Nat) p u, ps[i]? = some p → us[i]? = some u → PRep G'.M p u
  | [], us, ps, s, s', G, hS, hl, hr, h => by
    simp only [captures, Option.some.injEq, Prod.mk.injEq] at h
    obtain ⟨rfl, rfl⟩ := h
    exact ⟨G, hS, Ext.refl _ _, hl, by simp⟩
  | b :: l, us, ps, s, s', G, hS, hl, hr, h => by
    cases us with
    | nil => simp at hl
    | cons u us =>
      simp only [captures] at h
      split at h
      · rename_i p s1 hp
        split at h
        · rename_i ps' s2 hps
          simp only [Option.some.injEq, Prod.mk.injEq] at h
          obtain ⟨rfl, rfl⟩ := h
          obtain ⟨G1, a1, a2, a3⟩ := capture_rel hS (hr 0 b u rfl rfl) hp
          obtain ⟨G2, b1, b2, b3, b4⟩ := captures_rel a1 (by simpa using hl) (fun i b' u' h1 h2 => (hr (i + 1) b' u' (by simpa using h1) (by simpa using h2)).ext a2) hps
          refine ⟨G2, b1, a2.trans b2, by simp [b3], fun i q v h1 h2 => ?_⟩
          cases i with
          | zero => simp at h1 h2; subst h1; subst h2; exact a3.mono b2.M
          | succ i => exact b4 i q v (by simpa using h1) (by simpa using h2)
        · cases h
      · cases h

theorem s_makeFunc2 {g : FuncId} {caps first : Array Operand} {bs : List AV} {ps : List PV} {s' : St} (hf : first.isEmpty = true) (h1 : caps.toList.mapM av = some bs) (h2 : captures bs s = some (ps, s')) : Sound2 P (.makeFunc (.func g) first caps) ty av s (.pv (.fn g ps)) s' := by
  intro F w0 M0 G a w o hS hA ho _
  obtain ⟨g1, g2⟩ := avs_rel hA h1
  obtain ⟨G', k1, k2, k3, k4⟩ := captures_rel (us := (caps.map a.eval).toList) hS (by simp [g1]) (fun i b u e1 e2 => by
    simp only [Array.toList_map, List.getElem?_map] at e2
    cases hy : caps.toList[i]? with
    | none => rw [hy] at e2; cases e2
    | some y =>
      rw [hy] at e2
      obtain rfl := Option.some.inj e2
      exact g2 i b y e1 hy) h2
  have hf' : first = #[] := by simpa using hf
  refine OpTo.value (u := .func (.func g) #[] (caps.map a.eval)) (by simp [execOp, ho, Instr.makeFunc, hf']) ⟨G', k1, k2, ?_⟩
  have := PRep.fn (M := G'.M) g ps (caps.map a.eval).toList k3 k4
  rw [Array.toArray_toList] at this
  exact this
end
end Go.AL
