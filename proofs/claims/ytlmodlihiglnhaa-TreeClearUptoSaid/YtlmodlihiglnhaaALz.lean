/- Code, and calls. -/
import Derived.Test.YtlmodlihiglnhaaALy
import Derived.LoopN
set_option linter.unusedVariables false
set_option linter.unusedSimpArgs false
namespace Go.AL
open Go.RowKit

structure Good {ρ : Type} (F : Nat → Prop) (w0 : World) (M0 : Mem) (k : Ks ρ) (r : ρ) (Q : Exit → Act → World → Prop) : Prop where
  normal : ∀ y G a w, k.normal y = some r → R F w0 M0 G y a w → Q .normal a w
  exits : ∀ i y G a w, exitK k.exits i y = some r → R F w0 M0 G y a w → Q (.exit i) a w
  ret : ∀ y G a w, k.ret y = some r → R F w0 M0 G y a w → Q .ret a w

/-- What a region whose order is drawn comes to. -/
def DrawOk (P : Program) (E : Env) (f : FuncId) (ρ : Type) : Prop :=
  ∀ (F : Nat → Prop) (w0 : World) (M0 : Mem) (G : Gh) (id : Nat) (ops : Array Oper) (x : AS) (K : AS → Option ρ) (r : ρ) (a : Act) (w : World) (Q : Exit → Act → World → Prop), draw P E f ops x K = some r → R F w0 M0 G x a w →
    (∀ y G a w, K y = some r → R F w0 M0 G y a w → Q .normal a w) → (Code.region id ops true).wp P Q a w

section
variable {P : Program} {E : Env} {f : FuncId} {ρ : Type} {F : Nat → Prop} {w0 : World} {M0 : Mem}

theorem exec_sound (hT : TOk P) (hF : FOk P) (hc : CallOk P E.call) (hD : DrawOk P E f ρ) {n : Nat} : ∀ (c : Code) {bid : Nat} {ct : Cuts} {k : Ks ρ} {x : AS} {r : ρ} {G : Gh} {a : Act} {w : World} {Q : Exit → Act → World → Prop}, exec P E f n c bid ct k x = some r → R F w0 M0 G x a w → Good F w0 M0 k r Q → c.wp P Q a w := by
  intro c
  induction c with
  | skip => intro bid ct k x r G a w Q h hR hG; exact wp_skip (hG.normal x G a w h hR)
  | label l => intro bid ct k x r G a w Q h hR hG; exact wp_label (hG.normal x G a w h hR)
  | region id ops drawn =>
    intro bid ct k x r G a w Q h hR hG
    cases drawn with
    | true => exact hD F w0 M0 G id ops x k.normal r a w Q h hR hG.normal
    | false => exact wp_region_list (effs_sound hT hF hc h hR hG.normal)
  | seq c1 c2 ih1 ih2 =>
    intro bid ct k x r G a w Q h hR hG
    refine wp_seq (ih1 h hR ⟨fun y G a w hy hR' => ?_, hG.exits, hG.ret⟩)
    cases hct : here (down 1 ct) with
    | none => rw [hct] at hy; exact ih2 hy hR' hG
    | some hd =>
      rw [hct] at hy
      replace hy := bind_some hy
      obtain ⟨y1, hy1, hy⟩ := hy
      obtain ⟨G1, hR1⟩ := R.head hR' hy1
      exact ih2 hy hR1 hG
  | cond c c1 c2 ih1 ih2 =>
    intro bid ct k x r G a w Q h hR hG
    simp only [exec] at h
    split at h
    · rename_i b hb
      have := rep_bool (aval_rel hR.T hb)
      refine wp_cond this ?_
      cases b with
      | true => exact ih1 h hR hG
      | false => exact ih2 h hR hG
    · cases h
  | block i c ih =>
    intro bid ct k x r G a w Q h hR hG
    refine wp_block (ih h hR ⟨hG.normal, fun j y G a w hy hR' => ?_, hG.ret⟩)
    simp only [exitK] at hy
    simp only [Exit.inBlock]
    cases hb : Nat.beq i j with
    | true =>
      rw [hb] at hy
      rw [if_pos (beq_eq hb).symm]
      exact hG.normal y G a w hy hR'
    | false =>
      rw [hb] at hy
      rw [if_neg (by rintro rfl; rw [Nat.beq_refl] at hb; cases hb)]
      exact hG.exits j y G a w hy hR'
  | loop c ih =>
    intro bid ct k x r G a w Q h hR hG
    simp only [exec] at h
    split at h
    · rename_i hd hh
      replace h := bind_some h; obtain ⟨x1, hx1, h⟩ := h
      obtain ⟨G1, hR1⟩ := R.head hR hx1
      refine wp_loop_rounds n ?_
      clear hx1 hR
      have key : ∀ (m : Nat) (x1 : AS) (G1 : Gh) (a : Act) (w : World), (Nat.rec (motive := fun _ => AS → Option ρ) (fun _ => none) (fun _ again x => exec P E f n c bid (down 5 ct) { k with normal := fun x => (x.head hd).bind again } x) m x1) = some r → R F w0 M0 G1 x1 a w → Code.rounds P c Q m a w := by
        intro m
        induction m with
        | zero => intro x1 G1 a w h _; cases h
        | succ m ihm =>
          intro x1 G1 a w h hR1
          rw [rounds_succ]
          refine ih h hR1 ⟨fun y G a w hy hR' => ?_, hG.exits, hG.ret⟩
          replace hy := bind_some hy; obtain ⟨y1, hy1, hy⟩ := hy
          obtain ⟨G2, hR2⟩ := R.head hR' hy1
          exact ihm y1 G2 a w hy hR2
      exact key n x1 G1 a w h hR1
    · cases h
  | exit i => intro bid ct k x r G a w Q h hR hG; exact wp_exit (hG.exits i x G a w h hR)
  | ret => intro bid ct k x r G a w Q h hR hG; exact wp_ret (hG.ret x G a w h hR)
  | _ => intros; rename_i h _ _; cases h

/-! ### Results -/
theorem loadAV_ptr {ρ : Type} {t : TypeId} {b : AV} {s : St} {K : AV → Option ρ} {r : ρ} (h : loadAV P t b s K = some r) {G : Gh} {u : Value} (hr : ARel G s b u) : ∃ ad, u = .pointer (some ad) := by
  unfold loadAV at h
  split at h
  · cases h
  split at h
  · obtain ⟨ad, vs, e, _⟩ := rep_ptr hr; exact ⟨ad, e⟩
  · obtain ⟨_, b, _, e⟩ := hr; exact ⟨_, e⟩
  · obtain ⟨_, ⟨q, e⟩, _⟩ := hr; exact ⟨_, e⟩
  · cases h

theorem run_loadVar (hT : TOk P) {t : TypeId} {b v : AV} {s : St} {G : Gh} {w : World} (hS : SRel F w0 M0 G s w) {u : Value} (hr : ARel G s b u) (h : loadAV P t b s some = some v) : ∃ ad z, u = .pointer (some ad) ∧ (loadVar t ad).run P w = .ok z w ∧ ARel G s v z := by
  obtain ⟨ad, rfl⟩ := loadAV_ptr h hr
  obtain ⟨v', g1, g2⟩ := loadAV_sound (ty := 0) (av := fun y => match y with | .tmp 0 => some b | _ => none) (y := .tmp 0) hT rfl h
  obtain rfl := Option.some.inj g1
  obtain ⟨z, q1, q2⟩ := g2 F w0 M0 G { tmps := #[.pointer (some ad)], defers := [] } w ⟨none, .load t (.tmp 0), 0, "", #[], none⟩ hS (fun y c hy => by
    simp only at hy
    split at hy
    · obtain rfl := Option.some.inj hy; exact hr
    · cases hy) rfl rfl
  refine ⟨ad, z, rfl, ?_, q2⟩
  simp only [execOp, Act.eval, Instr.loadAt] at q1
  simp only [Array.getD, List.size_toArray, List.length_cons, List.length_nil, Nat.zero_add, Nat.lt_add_one, dite_true] at q1
  simp [Instr.sureAddr] at q1
  cases hrun : (loadVar t ad).run P w with
  | ok z' w' => rw [hrun] at q1; simp at q1; obtain ⟨rfl, rfl⟩ := q1; rfl
  | halt x w' => rw [hrun] at q1; simp at q1

theorem run_loadAgg (hT : TOk P) {t : TypeId} {b v : AV} {s : St} {G : Gh} {w : World} (hS : SRel F w0 M0 G s w) {u : Value} (hr : ARel G s b u) (h : loadAgg P t b s some = some v) : ∃ ad z, u = .pointer (some ad) ∧ (loadVar t ad).run P w = .ok z w ∧ ARel G s v z := by
  obtain ⟨ad, rfl⟩ : ∃ ad, u = .pointer (some ad) := by
    unfold loadAgg at h
    split at h
    · obtain ⟨_, b, _, e⟩ := hr; exact ⟨_, e⟩
    · cases h
  obtain ⟨v', g1, g2⟩ := loadAgg_sound (ty := 0) (av := fun y => match y with | .tmp 0 => some b | _ => none) (y := .tmp 0) hT rfl h
  obtain rfl := Option.some.inj g1
  obtain ⟨z, q1, q2⟩ := g2 F w0 M0 G { tmps := #[.pointer (some ad)], defers := [] } w ⟨none, .load t (.tmp 0), 0, "", #[], none⟩ hS (fun y c hy => by
    simp only at hy
    split at hy
    · obtain rfl := Option.some.inj hy; exact hr
    · cases hy) rfl rfl
  refine ⟨ad, z, rfl, ?_, q2⟩
  simp only [execOp, Act.eval, Instr.loadAt] at q1
  simp only [Array.getD, List.size_toArray, List.length_cons, List.length_nil, Nat.zero_add, Nat.lt_add_one, dite_true] at q1
  simp [Instr.sureAddr] at q1
  cases hrun : (loadVar t ad).run P w with
  | ok z' w' => rw [hrun] at q1; simp at q1; obtain ⟨rfl, rfl⟩ := q1; rfl
  | halt x w' => rw [hrun] at q1; simp at q1

theorem mapM_step {f : ResultVar → Sem Value} {r : ResultVar} {l : List ResultVar} {z : Value} {us : List Value} {w : World} (h1 : (f r).run P w = .ok z w) (h2 : (l.mapM f).run P w = .ok us w) : ((r :: l).mapM f).run P w = .ok (z :: us) w := by
  rw [List.mapM_cons]; simp [h1, h2]

theorem resAVs_rel (hT : TOk P) {G : Gh} {x : AS} {a : Act} {w : World} (hR : R F w0 M0 G x a w) : ∀ {l : List ResultVar} {bs : List AV}, resAVs P x l = some bs → ∃ us : List Value, LRel G x.s bs us ∧
    (l.mapM fun (r : ResultVar) => (match r with | .tmp t => pure (a.tmps.getD t undef) | .cell c t => do loadVar t (← asAddr (a.tmps.getD c undef)) : Sem Value)).run P w = .ok us w
  | [], bs, h => by obtain rfl := Option.some.inj h; exact ⟨[], ⟨rfl, by simp⟩, by simp⟩
  | r :: l, bs, h => by
    simp only [resAVs] at h
    split at h
    · rename_i v vs hv hvs
      obtain rfl := Option.some.inj h
      obtain ⟨us, g1, g2⟩ := resAVs_rel hT hR hvs
      cases r with
      | tmp t =>
        obtain ⟨u, hu, hb⟩ := hR.at hv
        have hg : a.tmps.getD t undef = u := by
          have hl := (Array.getElem?_eq_some_iff.1 hu).1
          simp only [Array.getD, hl, dite_true]
          rw [Array.getElem?_eq_getElem hl] at hu
          exact Option.some.inj hu
        refine ⟨u :: us, LRel.cons hb g1, mapM_step (z := u) ?_ g2⟩
        show (pure (a.tmps.getD t undef) : Sem Value).run P w = _
        rw [hg]
        rfl
      | cell c t =>
        simp only [resAV] at hv
        split at hv
        · rename_i b hb
          obtain ⟨u, hu, hr⟩ := hR.at hb
          have hg : a.tmps.getD c undef = u := by
            have hl := (Array.getElem?_eq_some_iff.1 hu).1
            simp only [Array.getD, hl, dite_true]
            rw [Array.getElem?_eq_getElem hl] at hu
            exact Option.some.inj hu
          obtain ⟨ad, z, rfl, q1, q2⟩ : ∃ ad z, u = .pointer (some ad) ∧ (loadVar t ad).run P w = .ok z w ∧ ARel G x.s v z := by
            split at hv
            · rename_i r hr'
              obtain rfl := Option.some.inj hv
              exact run_loadVar hT hR.S hr hr'
            · exact run_loadAgg hT hR.S hr hv
          refine ⟨z :: us, LRel.cons q2 g1, mapM_step (z := z) ?_ g2⟩
          show (asAddr (a.tmps.getD c undef) >>= fun ad => loadVar t ad).run P w = _
          rw [hg]
          simp [asAddr, q1]
        · cases hv
    · cases h

theorem outOf_rel {G : Gh} {s : St} {w : World} (hS : SRel F w0 M0 G s w) {ty : TypeId} {b : AV} {v : Value} {out : Out} (hr : ARel G s b v) (h : outOf P E f ty b s = some out) : ∃ G' s', SRel F w0 M0 G' s' w ∧ OutRel G' s' out v := by
  unfold outOf at h
  split at h
  · cases hk : E.keepNil f with
    | true => rw [hk] at h; obtain rfl := Option.some.inj h; exact ⟨G, s, hS, hr⟩
    | false =>
      rw [hk] at h
      simp only [cond_false] at h
      split at h
      · replace h := bif_some h; obtain ⟨h1, h⟩ := h
        cases hrv : E.retVec f with
        | false =>
          rw [hrv] at h
          obtain rfl := Option.some.inj h
          exact ⟨G, s, hS, .inl ⟨rfl, rep_nils hr, blt_lt h1⟩⟩
        | true =>
          rw [hrv] at h
          obtain rfl := Option.some.inj h
          obtain ⟨G3, q1, q2, q3⟩ := hS.attachVec (hd := ⟨none, 0, _⟩) (xs := []) (blt_lt h1) (by simp) (.inl ⟨rfl, rfl, rfl⟩)
          rw [rep_nils hr]
          exact ⟨G3, _, q1, s.vc.length, 0, by simp; rfl, q3⟩
      · obtain rfl := Option.some.inj h; exact ⟨G, s, hS, hr⟩
  · obtain rfl := Option.some.inj h; exact ⟨G, s, hS, hr⟩
  · rename_i i ver xs
    split at h
    · rename_i cur sz hi
      cases hb : Nat.beq cur ver with
      | true =>
        rw [hb] at h
        obtain rfl := Option.some.inj h
        obtain rfl := beq_eq hb
        exact ⟨G, s, hS, .inr ⟨i, cur, hi, hr⟩⟩
      | false => rw [hb] at h; obtain rfl := Option.some.inj h; exact ⟨G, s, hS, hr.2.1⟩
    · obtain rfl := Option.some.inj h; exact ⟨G, s, hS, hr.2.1⟩
  · rename_i i ver
    split at h
    · rename_i cur sz xs hi
      replace h := bif_some h; obtain ⟨h1, h⟩ := h
      have e1 := beq_eq h1
      subst e1
      cases hb : E.retVec f with
      | true => rw [hb] at h; obtain rfl := Option.some.inj h; exact ⟨G, s, hS, i, cur, hi, hr⟩
      | false =>
        rw [hb] at h
        obtain rfl := Option.some.inj h
        obtain ⟨G', q1, q2, q3⟩ := hS.pubVec hi hr
        exact ⟨G', _, q1, q3⟩
    · cases h
  · rename_i cs
    split at h
    · rename_i ps s' hps
      obtain rfl := Option.some.inj h
      obtain ⟨us, rfl, hl, hcr⟩ := hr
      obtain ⟨G', q1, q2, q3, q4⟩ := pubAll_rel hS ⟨hl, fun i a u e1 e2 => .of1 (hcr i a u e1 e2).1⟩ hps
      refine ⟨G', _, q1, PRep.agg ps us q3 (fun y hy => ?_) q4⟩
      obtain ⟨i, hi, rfl⟩ := List.mem_iff_getElem.1 hy
      have hiu : i < us.length := by omega
      have hic : i < cs.length := by omega
      exact rep_one (q4 i _ _ (List.getElem?_eq_getElem hi) (List.getElem?_eq_getElem hiu)) (hcr i _ _ (List.getElem?_eq_getElem hic) (List.getElem?_eq_getElem hiu)).2
    · cases h
  · cases h

theorem results_rel (hT : TOk P) {G : Gh} {x : AS} {a : Act} {w : World} (hR : R F w0 M0 G x a w) {fn : Func} {out : Out} (h : results P E f fn x = some out) : ∃ v, (Go.results fn a.tmps).run P w = .ok v w ∧ ∃ G' s', SRel F w0 M0 G' s' w ∧ OutRel G' s' out v := by
  have hrun : ∀ bs, resAVs P x fn.results.toList = some bs → ∃ us : List Value, LRel G x.s bs us ∧ (Go.results fn a.tmps).run P w = .ok (if us.length = 1 then us.getD 0 undef else .tuple us.toArray) w := by
    intro bs hb
    obtain ⟨us, g1, g2⟩ := resAVs_rel hT hR hb
    refine ⟨us, g1, ?_⟩
    unfold Go.results
    rw [Sem.run_bind, Array.mapM_eq_mapM_toList, Sem.run_map]
    have g3 := g2
    refine (congrArg (fun z : Result (List Value) => (z.andThen fun a w' => Result.ok a.toArray w').andThen fun vs w' => (pure (if h : vs.size = 1 then vs[0] else .tuple vs) : Sem Value).run P w') (show _ = Result.ok us w from g3)).trans ?_
    simp only [Result.andThen_ok]
    by_cases h1 : us.length = 1
    · simp [h1, List.getD]
    · simp [h1]
  unfold results at h
  split at h
  · rename_i b hb
    obtain ⟨us, g1, g2⟩ := hrun _ hb
    have hl := g1.1
    simp only [List.length_cons, List.length_nil] at hl
    rw [if_pos (by simpa using hl)] at g2
    have h0 : us[0]? = some (us.getD 0 undef) := by
      have : 0 < us.length := by omega
      simp [List.getD, List.getElem?_eq_getElem this]
    exact ⟨_, g2, outOf_rel hR.S (g1.2 0 b _ rfl h0) h⟩
  · rename_i vs hne hb
    split at h
    · rename_i ps s' hp
      obtain rfl := Option.some.inj h
      obtain ⟨us, g1, g2⟩ := hrun _ hb
      obtain ⟨G', q1, q2, q3, q4⟩ := pubAll_rel hR.S g1 hp
      have hne1 : ¬ us.length = 1 := by
        intro e
        have := g1.1
        rw [e] at this
        obtain ⟨v, hv⟩ := List.length_eq_one_iff.1 this.symm
        exact hne v hv
      rw [if_neg hne1] at g2
      exact ⟨_, g2, G', s', q1, .tup ps us q3 q4⟩
    · cases h
  · cases h

theorem run_sound (hT : TOk P) (hF : FOk P) (hc : CallOk P E.call) (hD : DrawOk P E f Out) {n : Nat} {args : List Arg} {out : Out} (h : run P E f n args = some out) : CSpec P f args out := by
  unfold run at h
  split at h
  · rename_i fn hfn
    split at h
    · rename_i c hcode
      replace h := bif_some h; obtain ⟨h1, h⟩ := h
      refine ⟨⟨fn, hfn, by rw [hcode]; rfl⟩, fun F M G w vs hS hFr => ?_⟩
      refine calls_of_wp hfn hcode (exec_sound (F := F) (w0 := w) (M0 := M) (G := G) hT hF hc hD c h ⟨hS, ⟨?_, fun i b v e1 e2 => ?_⟩, rfl⟩ ⟨fun y G a w' hy hR => ?_, fun i y G a w' hy hR => ?_, fun y G a w' hy hR => ?_⟩)
      · simp [hFr.1]
      · by_cases hi : i < (enterT args ⟨[], [], []⟩).1.length
        · rw [List.getElem?_append_left hi] at e1
          rw [Array.getElem?_append_left (by rw [hFr.1]; exact hi)] at e2
          exact hFr.2 i b v e1 e2
        · rw [List.getElem?_append_right (by omega)] at e1
          rw [Array.getElem?_append_right (by rw [hFr.1]; omega)] at e2
          have e1' := (List.mem_replicate.1 (List.mem_of_getElem? e1)).2
          subst e1'
          have e2' : v ∈ (Array.replicate (fn.ntmps - vs.size) undef) := Array.mem_of_getElem? e2
          exact (Array.mem_replicate.1 e2').2
      · obtain ⟨v, k1, G', s', k2, k3⟩ := results_rel hT hR hy
        exact ⟨hR.D, v, k1, v, G', s', rfl, k2, k3⟩
      · cases hy
      · obtain ⟨v, k1, G', s', k2, k3⟩ := results_rel hT hR hy
        exact ⟨hR.D, v, k1, v, G', s', rfl, k2, k3⟩
    · cases h
  · cases h

/-- The functions that are dealt with apart. -/
def PrimOk (P : Program) (T : Tab) : Prop := ∀ f g, T.prim f = some g → ∀ call, CallOk P call → ∀ args out, g call args = some out → args.all plainArg = true → CSpec P f args out

theorem acall_sound (hT : TOk P) (hF : FOk P) (hD : ∀ E f, CallOk P E.call → DrawOk P E f Out) {T : Tab} (hp : PrimOk P T) : ∀ n, CallOk P (acall P T n) := by
  intro n
  induction n with
  | zero => intro g args out h _; cases h
  | succ n ih =>
    intro g args out h hpl
    simp only [acall] at h
    split at h
    · rename_i pr hpr
      exact hp g pr hpr _ ih args out h hpl
    · exact run_sound hT hF ih (hD _ _ ih) h
end
end Go.AL
