/- Calls to which vectors are lent: what comes back refers to no memory but new one. -/
import Derived.Test.YtlmodlihiglnhaaALx
set_option linter.unusedVariables false
set_option linter.unusedSimpArgs false
namespace Go.AL
open Go.RowKit

section
variable {F : Nat → Prop} {w0 : World} {M0 : Mem} {G : Gh} {s : St} {w : World}

theorem pubAll_rel : ∀ {l : List AV} {us : List Value} {s s' : St} {G : Gh} {w : World} {ps : List PV}, SRel F w0 M0 G s w → LRel G s l us → pubAll l s = some (ps, s') → ∃ G', SRel F w0 M0 G' s' w ∧ Ext G s G' s' ∧ us.length = ps.length ∧ ∀ (i : Nat) p u, ps[i]? = some p → us[i]? = some u → PRep G'.M p u
  | [], us, s, s', G, w, ps, hS, hl, h => by
    simp only [pubAll, Option.some.injEq, Prod.mk.injEq] at h
    obtain ⟨rfl, rfl⟩ := h
    exact ⟨G, hS, Ext.refl _ _, hl.1, by simp⟩
  | b :: l, us, s, s', G, w, ps, hS, hl, h => by
    cases us with
    | nil => have := hl.1; simp at this
    | cons u us =>
      simp only [pubAll] at h
      split at h
      · rename_i p is s1 hp
        split at h
        · rename_i ps' s2 hps
          simp only [Option.some.injEq, Prod.mk.injEq] at h
          obtain ⟨rfl, rfl⟩ := h
          obtain ⟨G1, a1, a2, a3, a4⟩ := pass_rel hS (hl.2 0 b u rfl rfl) hp
          obtain ⟨gs', q1, _⟩ := a4 G1 s1 (Ext.refl _ _) a3 [] [] [] .nil
          have hp0 : PRep G1.M p u := by cases q1; assumption
          obtain ⟨G2, b1, b2, b3, b4⟩ := pubAll_rel a1 ⟨by have := hl.1; simpa using this, fun i b' u' h1 h2 => (hl.2 (i + 1) b' u' (by simpa using h1) (by simpa using h2)).ext a2⟩ hps
          refine ⟨G2, b1, a2.trans b2, by simp [b3], fun i q v h1 h2 => ?_⟩
          cases i with
          | zero => simp at h1 h2; subst h1; subst h2; exact hp0.mono b2.M
          | succ i => exact b4 i q v (by simpa using h1) (by simpa using h2)
        · cases h
      · cases h

/-- Memory of blocks that are new, added to what is told. -/
def newMem (n : Nat) (M N : Mem) : Mem := fun a => if n ≤ a.block then N a else M a

theorem SRel.mem_lt (h : SRel F w0 M0 G s w) {a : Addr} {v : Value} (e : G.M a = some v) : a.block < w.heap.size := World.block_lt_of_cell? _ _ (h.agree a v e)

theorem SRel.newMem_le (h : SRel F w0 M0 G s w) (N : Mem) : G.M.le (newMem w.heap.size G.M N) := fun a v e => by
  unfold newMem
  rw [if_neg (by have := h.mem_lt e; omega)]
  exact e

/-- Behind a call that was handed plain values alone, of some memory: the memory is as it was, and what is new. -/
theorem SRel.absorbN (h : SRel F w0 M0 G s w) {M1 : Mem} {G' : Gh} {s' : St} {w' : World} (hc : SRel (fun _ => False) w M1 G' s' w') : SRel F w0 M0 { G with M := newMem w.heap.size G.M G'.M } s w' := by
  have hle := h.newMem_le G'.M
  have he := Ext.mem s hle
  have hold : ∀ a v, w.cell? a = some v → w'.cell? a = some v := fun a v e => by
    have hb := World.block_lt_of_cell? _ _ e
    exact (World.cell?_of_block (a := a) (hc.old _ hb (fun e => e))).trans e
  refine ⟨hc.os.trans h.os, hc.tape.trans h.tape, hc.output.trans h.output, Nat.le_trans h.size hc.size, ?_, ?_, Mem.le_trans h.base hle, ?_, ?_, ?_, ?_, ?_, ?_⟩
  · intro k hk hF
    rw [hc.old k (Nat.lt_of_lt_of_le hk h.size) (fun e => e)]
    exact h.old k hk hF
  · intro a v e
    simp only [newMem] at e
    split at e
    · exact hc.agree a v e
    · exact hold a v (h.agree a v e)
  · intro a v e
    simp only [newMem] at e
    split at e
    · rename_i hb; exact .inr (.inl (Nat.le_trans h.size hb))
    · exact h.newM a v e
  · intro b hb
    obtain ⟨g1, g2⟩ := h.own b hb
    exact ⟨Nat.lt_of_lt_of_le g1 hc.size, g2⟩
  · intro a v e
    simp only [newMem] at e
    split at e
    · rename_i hb
      left
      cases ho : G.own a.block with
      | free => rfl
      | _ => have := (h.own a.block (by rw [ho]; simp)).1; omega
    · exact h.ownM a v e
  · intro i z cs b h1 h2
    obtain ⟨q1, q2, q3, vs, T, q4, q5, q6⟩ := h.bx i z cs b h1 h2
    exact ⟨q1, Nat.lt_of_lt_of_le q2 hc.size, q3, vs, T, by rw [hc.old b q2 (fun e => e)]; exact q4, q5, fun k c v hk hv => ⟨(q6 k c v hk hv).1.ext he, (q6 k c v hk hv).2⟩⟩
  · intro i ver sz xs h1
    obtain ⟨q0, q1, q2⟩ := h.vc i ver sz xs h1
    refine ⟨q0, q1, ?_⟩
    rcases q2 with q2 | ⟨b, o, vs, T, g1, g2, g3, g4, g5, g6⟩
    · exact .inl q2
    · refine .inr ⟨b, o, vs, T, g1, g2, ?_, g4, g5, fun j x k y e1 e2 => ?_⟩
      · rw [hc.old b (h.own b (by rw [g2]; simp)).1 (fun e => e)]; exact g3
      · obtain ⟨v, e3, e4⟩ := g6 j x k y e1 e2
        exact ⟨v, e3, e4.mono hle⟩
  · intro i e h1
    obtain ⟨q0, q2⟩ := h.tp i e h1
    refine ⟨q0, ?_⟩
    rcases q2 with q2 | ⟨b, o, vs, T, g1, g2, g3, g4⟩
    · exact .inl q2
    · exact .inr ⟨b, o, vs, T, g1, g2, by rw [hc.old b (h.own b (by rw [g2]; simp)).1 (fun e => e)]; exact g3, g4⟩

/-! #### Values that lie in no memory -/
theorem flat_cell {s : Sh} {p : PV} (h : s.flatC = true) (hf : s.fits p = true) {M : Mem} {v : Value} (hp : PRep M p v) (M' : Mem) : PRep M' p v := by
  cases s <;> simp [Sh.flatC] at h <;> cases p <;> simp [Sh.fits] at hf <;> cases hp <;> constructor

theorem flat_L {M M' : Mem} : ∀ {l : List Sh} {cs : List PV} {o : Bool}, l.all Sh.flatC = true → Sh.fitsL l cs o = true → ∀ (i : Nat) c v, cs[i]? = some c → PRep M c v → PRep M' c v
  | [], cs, o, _, h, i, c, v, hc, _ => by cases cs <;> simp [Sh.fitsL] at h; simp at hc
  | s :: l, [], o, _, h, i, c, v, hc, _ => by simp at hc
  | s :: l, p :: cs, o, ha, h, i, c, v, hc, hp => by
    simp only [List.all_cons, Bool.and_eq_true] at ha
    simp only [Sh.fitsL, Bool.and_eq_true] at h
    cases i with
    | zero => simp at hc; subst hc; exact flat_cell ha.1 h.1.1 hp M'
    | succ i => exact flat_L ha.2 h.2 i c v (by simpa using hc) hp

theorem flat_val {s : Sh} {p : PV} (h : s.flat = true) (hf : s.fits p = true) {M : Mem} {v : Value} (hp : PRep M p v) (M' : Mem) : PRep M' p v := by
  cases s with
  | agg l =>
    cases p <;> simp [Sh.fits] at hf
    cases hp with
    | agg cs vs hl ho hr => exact .agg _ vs hl ho fun i c v h1 h2 => flat_L h hf i c v h1 (hr i c v h1 h2)
  | tup l =>
    cases p <;> simp [Sh.fits] at hf
    cases hp with
    | tup cs vs hl hr => exact .tup _ vs hl fun i c v h1 h2 => flat_L h hf i c v h1 (hr i c v h1 h2)
  | _ => simp only [Sh.flat] at h; exact flat_cell h hf hp M'

theorem flat_cells {s : Sh} {p : PV} (h : s.flat = true) (hf : s.fits p = true) (hnt : ∀ l, s ≠ .tup l) {M : Mem} (M' : Mem) (k : Nat) (y : PV) (hy : p.cells[k]? = some y) {v : Value} (hp : PRep M y v) : PRep M' y v := by
  cases s with
  | agg l =>
    cases p <;> simp [Sh.fits] at hf
    exact flat_L h hf k y v hy hp
  | tup l => exact absurd rfl (hnt l)
  | _ =>
    simp only [Sh.flat] at h
    cases p <;> simp [Sh.fits, Sh.flatC] at hf h <;> (cases k <;> simp [PV.cells] at hy; subst hy; cases hp; constructor)

/-- A list of such, in memory that is new. -/
theorem flat_list {s : Sh} (h : s.flat = true) (hnt : ∀ l, s ≠ .tup l) {xs : List PV} (hf : xs.all s.fits = true) {M : Mem} {A : Option Addr} {n c : Nat} (hp : PRep M (.lst xs) (.slice A n c)) {M' : Mem} (hM : ∀ ad, A = some ad → ∀ k v, M (ad.add k) = some v → M' (ad.add k) = some v) : PRep M' (.lst xs) (.slice A n c) := by
  cases hp with
  | lst xs A cap sz vs hsz hcap hs ho hA hm hr =>
    refine .lst xs A c sz vs hsz hcap hs ho hA (fun ad e j x k y h1 h2 => hM ad e _ _ (hm ad e j x k y h1 h2)) fun j x k y h1 h2 => ?_
    exact flat_cells h (List.all_eq_true.1 hf x (List.mem_of_getElem? h1)) hnt M' k y h2 (hr j x k y h1 h2)
end

section
variable {P : Program} {ty : TypeId} {av : Av} {s : St}

/-- A call to which vectors are lent. -/
theorem call_lend (hF : FOk P) {E : Env} (hc : CallOk P E.call) {c : Call} {g : FuncId} {bs : List AV} {ps : List PV} {s1 : St} {out : Out} (hcal : c.callee = .value (.func g)) (h1 : c.args.toList.mapM av = some bs) (h2 : pubAll bs s = some (ps, s1))
    (h : E.call g (ps.map .pv) = some out) {F : Nat → Prop} {w0 : World} {M0 : Mem} {G : Gh} {a : Act} {w : World} {o : Oper} (hS : SRel F w0 M0 G s w) (hA : Avs av G s a) (ho : o.op = .call c) {N : Value → World → Prop}
    (hN : ∀ M1 v G' s' w', SRel (fun _ => False) w M1 G' s' w' → OutRel G' s' out v → N v w') : OpTo P o a w N := by
  obtain ⟨g1, g2⟩ := avs_rel hA h1
  obtain ⟨G1, k1, k2, k3, k4⟩ := pubAll_rel (us := (c.args.map a.eval).toList) hS ⟨by simp [g1], fun i b u e1 e2 => by
    simp only [Array.toList_map, List.getElem?_map] at e2
    cases hy : c.args.toList[i]? with
    | none => rw [hy] at e2; cases e2
    | some y =>
      rw [hy] at e2
      obtain rfl := Option.some.inj e2
      exact g2 i b y e1 hy⟩ h2
  obtain ⟨hb, hs⟩ := hc g _ out h (plain_pv ps)
  rw [enterT_pv] at hs
  have hrun : (execOp a.eval o).run P w = .ok (.enter g (c.args.map a.eval)) w := by
    simp [execOp, ho, resolve, hcal, Act.eval, Deferred.ofValue, invoke, run_callFunc hF hb]
  refine OpTo.enter hrun ((hs (fun _ => False) G1.M (G0 G1.M) w _ k1.start ⟨by simpa using k3, fun i b v e1 e2 => ?_⟩).mono ?_)
  · rw [List.getElem?_map] at e1
    cases hp : ps[i]? with
    | none => rw [hp] at e1; cases e1
    | some q => rw [hp] at e1; obtain rfl := Option.some.inj e1; exact k4 i q v hp (by simpa using e2)
  · rintro e w' ⟨v, G', s', rfl, q1, q2⟩
    exact ⟨v, rfl, hN _ v G' s' w' q1 q2⟩

theorem s_lend0 (hF : FOk P) {E : Env} (hc : CallOk P E.call) {c : Call} {g : FuncId} {bs : List AV} {ps : List PV} {s1 : St} {out : Out} {r : PV} (hcal : c.callee = .value (.func g)) (h1 : c.args.toList.mapM av = some bs) (h2 : pubAll bs s = some (ps, s1))
    (h : E.call g (ps.map .pv) = some out) (hr : retPV out = some r) {sh : Sh} (hsh : sh.flat = true) (hfit : sh.fits r = true) : Sound2 P (.call c) ty av s (.pv r) s := by
  intro F w0 M0 G a w o hS hA ho _
  refine call_lend hF hc hcal h1 h2 h hS hA ho fun M1 v G' s' w' q1 q2 => ?_
  refine ⟨_, hS.absorbN q1, Ext.mem s (hS.newMem_le _), ?_⟩
  have hp : PRep G'.M r v := by
    obtain ⟨arg, outs⟩ := out
    cases arg with
    | pv p =>
      cases outs with
      | nil => obtain rfl := Option.some.inj hr; exact q2
      | cons _ _ => cases hr
    | bld sz xs =>
      cases outs with
      | nil =>
        obtain rfl := Option.some.inj hr
        rcases q2 with ⟨rfl, rfl, _⟩ | ⟨i, e, _, q2⟩
        · exact PRep.weak (p := .nils) .nils
        · exact q2.2.1
      | cons _ _ => cases hr
    | vec sz xs => cases hr
    | box cs => cases hr
  exact flat_val hsh hfit hp _

theorem s_lend1 (hF : FOk P) {E : Env} (hc : CallOk P E.call) {c : Call} {g : FuncId} {bs : List AV} {ps : List PV} {s1 : St} {out : Out} {k : Nat} {xs : List PV} (hcal : c.callee = .value (.func g)) (h1 : c.args.toList.mapM av = some bs) (h2 : pubAll bs s = some (ps, s1))
    (h : E.call g (ps.map .pv) = some out) (hr : retB k out = some xs) {sh : Sh} (hsh : sh.flat = true) (hnt : ∀ l, sh ≠ .tup l) (hfit : xs.all sh.fits = true) : Sound2 P (.call c) ty av s (.bld s.tp.length 0 xs) { s with tp := s.tp ++ [(0, k)] } := by
  intro F w0 M0 G a w o hS hA ho _
  refine call_lend hF hc hcal h1 h2 h hS hA ho fun M1 v G' s' w' q1 q2 => ?_
  have hS' := hS.absorbN q1
  have he := Ext.mem s (hS.newMem_le G'.M)
  obtain ⟨arg, outs⟩ := out
  cases arg with
  | bld sz ys =>
    cases outs with
    | nil =>
      simp only [retB] at hr
      replace hr := bif_some hr
      obtain ⟨hr1, hr2⟩ := hr
      obtain rfl := beq_eq hr1
      obtain rfl := Option.some.inj hr2
      rcases q2 with ⟨rfl, rfl, hsz⟩ | ⟨i, e, h1', h2'⟩
      · obtain ⟨G3, m1, m2, m3⟩ := hS'.newTip sz hsz
        exact ⟨G3, m1, he.trans m2, m3 _ .nils⟩
      · obtain ⟨⟨t1, t2⟩, t3⟩ := q1.tp i _ h1'
        simp only at t1
        obtain ⟨g1, g2, g3⟩ := h2'
        have ht := (g3 _ h1').2 rfl
        have hnew : ∀ b, G'.own b ≠ .free → w.heap.size ≤ b := fun b hb => by
          rcases (q1.own b hb).2 with e | e
          · exact e.elim
          · exact e
        obtain ⟨⟨A, hv, hA⟩, hlen⟩ := ht
        have hb' : ∀ (ad : Addr) n, (ad.add n).block = ad.block := fun ad n => by unfold Addr.add; split <;> rfl
        have hl : PRep (newMem w.heap.size G.M G'.M) (.lst ys) v := by
          rw [hv] at g2 ⊢
          by_cases hy : ys = []
          · subst hy
            cases g2 with
            | lst xs A cap sz vs hsz hcap hs ho hA hm hr => exact .lst [] A _ sz vs hsz hcap (by simp) (by simp) hA (by simp) (by simp)
          · have hpos : 0 < ys.length + (G'.τ i).room := by have := List.length_pos_iff.2 hy; omega
            have hA' := hA hpos
            refine flat_list hsh hnt hfit g2 fun ad e' m u hu => ?_
            subst e'
            rcases t3 with ⟨t3, t4⟩ | ⟨b, o', vs, T, k1, k2, k3, k4⟩
            · rw [t3] at hA'; cases hA'
            · rw [k1] at hA'
              simp only [Option.map_some, Option.some.injEq] at hA'
              have hbk : ad.block = b := by rw [← hb' ad (ys.length * (G'.τ i).sz), hA']
              have hge := hnew b (by rw [k2]; simp)
              unfold newMem
              rw [if_pos (by rw [hb']; omega)]
              exact hu
        have := hS'.attachTip (hd := G'.τ i) (xs := ys) (v := v) t2 (by
          rcases t3 with t3 | ⟨b, o', vs, T, k1, k2, k3, k4⟩
          · exact .inl t3
          · have hge := hnew b (by rw [k2]; simp)
            refine .inr ⟨b, o', vs, T, k1, ?_, (q1.own b (by rw [k2]; simp)).1, .inr (Nat.le_trans hS.size hge), k3, k4, fun a u e1 e2 => ?_, fun j cs e1 e2 => ?_⟩
            · show G.own b = .free
              cases hob : G.own b with
              | free => rfl
              | _ => have := (hS.own b (by rw [hob]; simp)).1; omega
            · simp only [newMem] at e1
              rw [if_pos (by rw [e2]; exact hge)] at e1
              rcases q1.ownM a u e1 with e3 | ⟨j, ad, hj, e3, e4, e5⟩
              · rw [e2, k2] at e3; cases e3
              · rw [e2, k2] at e3
                cases e3
                rw [k1] at e4
                obtain rfl := Option.some.inj e4
                exact e5
            · have := (hS.bx j true cs b e1 e2).2.1; omega) hl ⟨⟨A, hv, hA⟩, hlen⟩
        rw [t1] at this
        obtain ⟨G3, m1, m2, m3⟩ := this
        exact ⟨G3, m1, he.trans m2, m3⟩
    | cons _ _ => cases hr
  | pv p => cases hr
  | vec sz xs => cases hr
  | box cs => cases hr
end
end Go.AL
