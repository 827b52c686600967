/- The abstract machine, its soundness, and what a row needs of it: part 5. -/
import Derived.Test.YtjfibflkfdpllaaGreatDoorAL4
import Derived.Defers
/- Calls that share the store of him who calls, loops without heads: for calls whose arguments are known. -/
set_option linter.unusedVariables false
set_option linter.unusedSimpArgs false
namespace Go.AL
open Go.RowKit

abbrev Inl := FuncId → List AV → St → Option (AV × St)
/-- What was known of values is known still. -/
def Pres (G : Gh) (s : St) (G' : Gh) (s' : St) : Prop := ∀ b z, ARel G s b z → ARel G' s' b z
theorem Pres.refl (G : Gh) (s : St) : Pres G s G s := fun _ _ h => h
theorem Pres.trans {G1 G2 G3 : Gh} {s1 s2 s3 : St} (h : Pres G1 s1 G2 s2) (k : Pres G2 s2 G3 s3) : Pres G1 s1 G3 s3 := fun b z hz => k b z (h b z hz)
def ISpec (P : Program) (g : FuncId) (l : List AV) (s : St) (r : AV × St) : Prop := HasBody P g ∧
  ∀ (F : Fr) (w0 : World) (M0 : Mem) (G : Gh) (w : World) (vs : Array Value), SRel F w0 M0 G s w → LRel G s l vs.toList →
    Calls P g vs w fun e w' => ∃ u G', e = .returned u ∧ SRel F w0 M0 G' r.2 w' ∧ Pres G s G' r.2 ∧ ARel G' r.2 r.1 u
def InlOk (P : Program) (J : Inl) : Prop := ∀ g l s r, J g l s = some r → ISpec P g l s r

section
variable (P : Program) (E : Env) (J : Inl) (inl : FuncId → Bool) (f : FuncId) {ρ : Type}
def effI (o : Oper) (x : AS) (K : AV → St → Option ρ) : Option ρ :=
  match o.op with
  | .call c => match c.callee with
    | .value (.func g) => bif inl g then (match c.args.toList.mapM (aval x) with | some l => (J g l x.s).bind fun r => K r.1 r.2 | none => none) else eff P E f o x K
    | _ => eff P E f o x K
  | .makeFunc (.func _) first caps => bif first.isEmpty then K .any x.s else none
  | .build .. => effS P E f x o.op o.type o.dst K
  | .binOp .neq t y (.const .nilIface) t' => match aval x y, P.underlying t with
    | some (.pv .nilI), some (.interface _) => K (.pv (.bool false)) x.s
    | _, _ => eff P E f o x K
  | _ => eff P E f o x K
def effsI (all : Array Oper) : List Oper → AS → (AS → Option ρ) → Option ρ
  | [], x, K => K x
  | o :: rest, x, K => match o.guard with
    | none => effI P E J inl f o x fun v s => effsI all rest ({ x with s := s }.put o.dst v) K
    | some (j, want) => match (all[j]?).bind (·.dst) with
      | none => none
      | some d => match x.t[d]? with
        | some (.pv (.bool g)) => bif g
          then (bif want then effI P E J inl f o (x.put (some d) (.pv (.bool true))) fun v s => effsI all rest ({ x.put (some d) (.pv (.bool true)) with s := s }.put o.dst v) K else effsI all rest ((x.put (some d) (.pv (.bool true))).put o.dst .undef) K)
          else (bif want then effsI all rest ((x.put (some d) (.pv (.bool false))).put o.dst .undef) K else effI P E J inl f o (x.put (some d) (.pv (.bool false))) fun v s => effsI all rest ({ x.put (some d) (.pv (.bool false)) with s := s }.put o.dst v) K)
        | some .undef => effsI all rest (x.put o.dst .undef) K
        | _ => none
def execI (n : Nat) : Code → Ks ρ → AS → Option ρ
  | .skip, k, x => k.normal x
  | .label _, k, x => k.normal x
  | .region _ ops drawn, k, x => bif drawn then draw P E f ops x k.normal else effsI P E J inl f ops ops.toList x k.normal
  | .seq a b, k, x => execI n a { k with normal := fun x => execI n b k x } x
  | .cond c a b, k, x => match aval x c with
    | some (.pv (.bool c)) => bif c then execI n a k x else execI n b k x
    | _ => none
  | .block i b, k, x => execI n b { k with exits := (i, k.normal) :: k.exits } x
  | .loop b, k, x => Nat.rec (motive := fun _ => AS → Option ρ) (fun _ => none) (fun _ again x => execI n b { k with normal := again } x) n x
  | .exit i, k, x => exitK k.exits i x
  | .ret, k, x => k.ret x
  | _, _, _ => none
def resI (fn : Func) (x : AS) : Option (AV × St) :=
  match resAVs P false x fn.results.toList with
  | some [v] => some (v, x.s)
  | some vs => match toPVs vs with | some ps => some (.pv (.tup ps), x.s) | none => none
  | none => none
def inlRun (n : Nat) (l : List AV) (s : St) : Option (AV × St) :=
  match P.funcs[f]? with
  | some fn => match fn.body with
    | some c => execI P E J inl f n c ⟨resI P fn, [], resI P fn⟩ ⟨l ++ List.replicate (fn.ntmps - l.length) .undef, s⟩
    | none => none
  | none => none
def runI (n : Nat) (args : List Arg) : Option Out :=
  match P.funcs[f]? with
  | some fn => match fn.body with
    | some c => bif args.all plainArg then
        let r := enter args
        execI P E J inl f n c ⟨results P E f fn, [], results P E f fn⟩ ⟨r.1 ++ List.replicate (fn.ntmps - r.1.length) .undef, r.2⟩
      else none
    | none => none
  | none => none
end
def inlN (P : Program) (E : Env) (inl : FuncId → Bool) : Nat → Inl
  | 0 => fun _ _ _ => none
  | n + 1 => fun g l s => bif inl g then inlRun P E (inlN P E inl n) inl g n l s else none

/-- As R, with any condition on what is deferred. -/
structure RQ (q : List Deferred → Prop) (F : Fr) (w0 : World) (M0 : Mem) (G : Gh) (x : AS) (a : Act) (w : World) : Prop where
  S : SRel F w0 M0 G x.s w
  T : FRel G x.s x.t a.tmps
  D : q a.defers
abbrev nilQ : List Deferred → Prop := fun ds => ds = []
theorem R.toQ {F : Fr} {w0 : World} {M0 : Mem} {G : Gh} {x : AS} {a : Act} {w : World} (h : R F w0 M0 G x a w) : RQ nilQ F w0 M0 G x a w := ⟨h.S, h.T, h.D⟩
theorem RQ.toR {F : Fr} {w0 : World} {M0 : Mem} {G : Gh} {x : AS} {a : Act} {w : World} (h : RQ nilQ F w0 M0 G x a w) : R F w0 M0 G x a w := ⟨h.S, h.T, h.D⟩
/-- No region's order is drawn. -/
def noDraw : Code → Bool
  | .region _ _ drawn => !drawn
  | .seq a b => noDraw a && noDraw b
  | .cond _ a b => noDraw a && noDraw b
  | .block _ b => noDraw b
  | .loop b => noDraw b
  | _ => true
structure GoodI {ρ : Type} (q : List Deferred → Prop) (F : Fr) (w0 : World) (M0 : Mem) (G0 : Gh) (s0 : St) (k : Ks ρ) (r : ρ) (Q : Exit → Act → World → Prop) : Prop where
  normal : ∀ y G a w, k.normal y = some r → RQ q F w0 M0 G y a w → Pres G0 s0 G y.s → Q .normal a w
  exits : ∀ i y G a w, exitK k.exits i y = some r → RQ q F w0 M0 G y a w → Pres G0 s0 G y.s → Q (.exit i) a w
  ret : ∀ y G a w, k.ret y = some r → RQ q F w0 M0 G y a w → Pres G0 s0 G y.s → Q .ret a w

section
variable {q : List Deferred → Prop} {P : Program} {E : Env} {J : Inl} {inl : FuncId → Bool} {f : FuncId} {ρ : Type} {F : Fr} {w0 : World} {M0 : Mem}
theorem GoodI.from {G0 G1 : Gh} {s0 s1 : St} {k : Ks ρ} {r : ρ} {Q : Exit → Act → World → Prop} (h : GoodI q F w0 M0 G0 s0 k r Q) (hp : Pres G0 s0 G1 s1) : GoodI q F w0 M0 G1 s1 k r Q :=
  ⟨fun y G a w e q p => h.normal y G a w e q (hp.trans p), fun i y G a w e q p => h.exits i y G a w e q (hp.trans p), fun y G a w e q p => h.ret y G a w e q (hp.trans p)⟩
theorem FRel.pres {G G' : Gh} {s s' : St} (h : Pres G s G' s') {t : List AV} {tm : Array Value} (r : FRel G s t tm) : FRel G' s' t tm :=
  ⟨r.1, fun i a v h1 h2 => h _ _ (r.2 i a v h1 h2)⟩
theorem RQ.putP {G G' : Gh} {x : AS} {a : Act} {w w' : World} (h : RQ q F w0 M0 G x a w) {s' : St} (hS : SRel F w0 M0 G' s' w') (he : Pres G x.s G' s')
    (dst : Option Tmp) {b : AV} {v : Value} (hv : ARel G' s' b v) : RQ q F w0 M0 G' ({ x with s := s' }.put dst b) (a.put dst v) w' := by
  cases dst with
  | none => exact ⟨hS, h.T.pres he, h.D⟩
  | some d => exact ⟨hS, (h.T.pres he).set d hv, h.D⟩

theorem RQ.at {G : Gh} {x : AS} {a : Act} {w : World} (hR : RQ q F w0 M0 G x a w) {d : Nat} {b : AV} (h : x.t[d]? = some b) : ∃ v, a.tmps[d]? = some v ∧ ARel G x.s b v := by
  have hl : d < a.tmps.size := by rw [hR.T.1]; exact (List.getElem?_eq_some_iff.1 h).1
  exact ⟨_, Array.getElem?_eq_getElem hl, hR.T.2 d b _ h (Array.getElem?_eq_getElem hl)⟩
theorem RQ.refine {G : Gh} {x : AS} {a : Act} {w : World} (hR : RQ q F w0 M0 G x a w) {d : Nat} {v : Value} {b : AV} (hv : a.tmps[d]? = some v) (hb : ARel G x.s b v) : RQ q F w0 M0 G (x.put (some d) b) a w := by
  have := R.refine (a := { a with defers := [] }) (w := w) (F := F) (w0 := w0) (M0 := M0) (x := x) ⟨hR.S, hR.T, rfl⟩ hv hb
  exact ⟨this.S, this.T, hR.D⟩
theorem RQ.skip {G : Gh} {x : AS} {a : Act} {w : World} (hR : RQ q F w0 M0 G x a w) (dst : Option Tmp) : RQ q F w0 M0 G (x.put dst .undef) (a.put dst undef) w :=
  RQ.putP hR hR.S (Pres.refl _ _) dst (b := .undef) (v := undef) rfl
theorem effI_sound (hT : TOk P) (hF : FOk P) (hc : CallOk P E.call) (hJ : InlOk P J) {o : Oper} {x : AS} {K : AV → St → Option ρ} {r : ρ} {G : Gh} {a : Act} {w : World} (h : effI P E J inl f o x K = some r) (hR : RQ q F w0 M0 G x a w) :
    ∃ v s', K v s' = some r ∧ OpTo P o a w fun u w' => ∃ G', SRel F w0 M0 G' s' w' ∧ Pres G x.s G' s' ∧ ARel G' s' v u := by
  have hA : Avs (aval x) G x.s a := fun y b hy => aval_rel hR.T hy
  have old : eff P E f o x K = some r → ∃ v s', K v s' = some r ∧ OpTo P o a w fun u w' => ∃ G', SRel F w0 M0 G' s' w' ∧ Pres G x.s G' s' ∧ ARel G' s' v u := fun h => by
    unfold eff at h
    cases hp : (plain E f o || vecFree (aval x) o.op) with
    | true =>
      rw [hp] at h
      obtain ⟨v, g1, g2⟩ := effP_sound (dst := o.dst) hT hF hc h
      exact ⟨v, _, g1, (g2 F w0 M0 G x.s a w o hR.S hA rfl rfl).mono fun u w' ⟨G', k1, k2, k3⟩ => ⟨G', k1, fun b z hz => hz.ext k2, k3⟩⟩
    | false =>
      rw [hp] at h
      obtain ⟨v, s', g1, g2⟩ := effS_sound hT hF hc h
      exact ⟨v, s', g1, (g2 F w0 M0 G a w o hR.S hA rfl rfl).mono fun u w' ⟨G', k1, k2, k3⟩ => ⟨G', k1, fun b z hz => hz.ext k2, k3⟩⟩
  unfold effI at h
  split at h
  · rename_i c ho
    split at h
    · rename_i g hcal
      cases hi : inl g with
      | false => rw [hi] at h; exact old h
      | true =>
        rw [hi] at h
        simp only [cond_true] at h
        split at h
        · rename_i l hl
          replace h := bind_some h
          obtain ⟨q, hq, h⟩ := h
          obtain ⟨hb, hs⟩ := hJ g l x.s q hq
          refine ⟨q.1, q.2, h, ?_⟩
          obtain ⟨g1, g2⟩ := avs_rel hA hl
          have hrun : (execOp a.eval o).run P w = .ok (.enter g (c.args.map a.eval)) w := by
            simp [execOp, ho, resolve, hcal, Act.eval, Deferred.ofValue, invoke, run_callFunc hF hb]
          refine OpTo.enter hrun ((hs F w0 M0 G w _ hR.S ⟨by simp [g1], fun i b u e1 e2 => ?_⟩).mono ?_)
          · simp only [Array.toList_map, List.getElem?_map] at e2
            cases hy : c.args.toList[i]? with
            | none => rw [hy] at e2; cases e2
            | some y =>
              rw [hy] at e2
              obtain rfl := Option.some.inj e2
              exact g2 i b y e1 hy
          · rintro e w' ⟨u, G', rfl, q1, q2, q3⟩
            exact ⟨u, rfl, G', q1, q2, q3⟩
        · cases h
    · exact old h
  · rename_i g first caps ho
    replace h := bif_some h; obtain ⟨h1, h⟩ := h
    have hf' : first = #[] := by simpa using h1
    exact ⟨_, _, h, OpTo.value (u := .func (.func g) #[] (caps.map a.eval)) (by simp [execOp, ho, Instr.makeFunc, hf']) ⟨G, hR.S, Pres.refl _ _, trivial⟩⟩
  · obtain ⟨v, s', g1, g2⟩ := effS_sound hT hF hc h
    exact ⟨v, s', g1, (g2 F w0 M0 G a w o hR.S hA rfl rfl).mono fun u w' ⟨G', k1, k2, k3⟩ => ⟨G', k1, fun b z hz => hz.ext k2, k3⟩⟩
  · rename_i t y t' ho
    split at h
    · rename_i ms hy ht
      have hn : ∀ {u : Value}, PRep G.M .nilI u → u = .nilIface := fun h => by cases h; rfl
      have hu : a.eval y = .nilIface := hn (hA y _ hy)
      refine ⟨_, _, h, OpTo.value (u := .bool false) (execOp_bin ho w (by rw [hu]; show (eqGuard .neq t y (.const .nilIface) .nilIface .nilIface).run P w = _; cases y <;> rfl) ?_) ⟨G, hR.S, Pres.refl _ _, PRep.bool _⟩⟩
      rw [hu]
      have key : ∀ d, (Op.equalIn (d + 1) t .nilIface .nilIface).run P w = .ok true w := fun d => by simp [Op.equalIn, run_underlying ht]
      have k2 : (Op.equal t .nilIface .nilIface).run P w = .ok true w := key 9999
      show (binOp .neq t .nilIface .nilIface).run P w = _
      simp [binOp, k2]
    · exact old h
  · exact old h

theorem effsI_sound (hT : TOk P) (hF : FOk P) (hc : CallOk P E.call) (hJ : InlOk P J) {all : Array Oper} {Q : Exit → Act → World → Prop} : ∀ {ops : List Oper} {x : AS} {K : AS → Option ρ} {r : ρ} {G : Gh} {a : Act} {w : World}, effsI P E J inl f all ops x K = some r → RQ q F w0 M0 G x a w →
    (∀ y G' a w, K y = some r → RQ q F w0 M0 G' y a w → Pres G x.s G' y.s → Q .normal a w) → wpList P all Q ops a w
  | [], x, K, r, G, a, w, h, hR, hK => hK x G a w h hR (Pres.refl _ _)
  | o :: rest, x, K, r, G, a, w, h, hR, hK => by
    have go : ∀ {x' : AS}, x'.s = x.s → RQ q F w0 M0 G x' a w → effI P E J inl f o x' (fun v s => effsI P E J inl f all rest ({ x' with s := s }.put o.dst v) K) = some r → Region.wanted o (yielded all a.tmps) = true → wpList P all Q (o :: rest) a w := by
      intro x' hxs hR' h' hw
      obtain ⟨v, s', g1, g2⟩ := effI_sound hT hF hc hJ h' hR'
      unfold wpList
      rw [if_pos hw]
      refine .inl (g2 _ _ fun u w' ⟨G', k1, k2, k3⟩ => effsI_sound hT hF hc hJ g1 (RQ.putP hR' k1 k2 o.dst k3) fun y G2 a w e q p => hK y G2 a w e q ?_)
      rw [← hxs]
      rw [put_s] at p
      exact k2.trans p
    have no : ∀ {x' : AS}, x'.s = x.s → RQ q F w0 M0 G x' a w → effsI P E J inl f all rest (x'.put o.dst .undef) K = some r → Region.wanted o (yielded all a.tmps) = false → wpList P all Q (o :: rest) a w := by
      intro x' hxs hR' h' hw
      unfold wpList
      rw [if_neg (by rw [hw]; simp)]
      refine effsI_sound hT hF hc hJ h' (hR'.skip o.dst) fun y G2 a w e q p => hK y G2 a w e q ?_
      rw [put_s, hxs] at p
      exact p
    simp only [effsI] at h
    split at h
    · rename_i hg
      exact go rfl hR h (wanted_none hg _)
    · rename_i j want hg
      split at h
      · cases h
      · rename_i d hd
        split at h
        · rename_i g hx
          obtain ⟨v, hv, hb⟩ := hR.at hx
          cases rep_bool hb
          have hy := yielded_of hd _ hv
          simp only at hy
          have hr := hR.refine hv (b := .pv (.bool g)) hb
          cases g with
          | true =>
            simp only [cond_true] at h
            cases want with
            | true => exact go (put_s ..) hr h (by rw [wanted_some hg, hy]; rfl)
            | false => exact no (put_s ..) hr h (by rw [wanted_some hg, hy]; rfl)
          | false =>
            simp only [cond_false] at h
            cases want with
            | true => exact no (put_s ..) hr h (by rw [wanted_some hg, hy]; rfl)
            | false => exact go (put_s ..) hr h (by rw [wanted_some hg, hy]; rfl)
        · rename_i hx
          obtain ⟨v, hv, hb⟩ := hR.at hx
          have hb' : v = undef := hb
          subst hb'
          have hy := yielded_of hd _ hv
          exact no rfl hR h (by rw [wanted_some hg, hy]; rfl)
        · cases h

theorem execI_sound (hT : TOk P) (hF : FOk P) (hc : CallOk P E.call) (hJ : InlOk P J) (hD : DrawOk P E f ρ) {n : Nat} : ∀ (c : Code), ((∀ ds, q ds → ds = []) ∧ q [] ∨ noDraw c = true) → ∀ {k : Ks ρ} {x : AS} {r : ρ} {G : Gh} {a : Act} {w : World} {Q : Exit → Act → World → Prop}, execI P E J inl f n c k x = some r → RQ q F w0 M0 G x a w → GoodI q F w0 M0 G x.s k r Q → c.wp P Q a w := by
  intro c
  induction c with
  | skip => intro _ k x r G a w Q h hR hG; exact wp_skip (hG.normal x G a w h hR (Pres.refl _ _))
  | label l => intro _ k x r G a w Q h hR hG; exact wp_label (hG.normal x G a w h hR (Pres.refl _ _))
  | region id ops drawn =>
    intro hq k x r G a w Q h hR hG
    cases drawn with
    | true =>
      rcases hq with ⟨h1, h2⟩ | hq
      · exact hD F w0 M0 G id ops x k.normal r a w Q h ⟨hR.S, hR.T, h1 _ hR.D⟩ fun y G' a w e p z => hG.normal y G' a w e ⟨p.S, p.T, by rw [p.D]; exact h2⟩ z
      · cases hq
    | false => exact wp_region_list (effsI_sound hT hF hc hJ h hR hG.normal)
  | seq c1 c2 ih1 ih2 =>
    intro hq k x r G a w Q h hR hG
    have hq1 := hq.imp id fun hq => (show noDraw c1 = true ∧ noDraw c2 = true by simpa [noDraw] using hq)
    exact wp_seq (ih1 (hq1.imp id (·.1)) h hR ⟨fun y G a w hy hR' hp => ih2 (hq1.imp id (·.2)) hy hR' (hG.from hp), hG.exits, hG.ret⟩)
  | cond c c1 c2 ih1 ih2 =>
    intro hq k x r G a w Q h hR hG
    have hq1 := hq.imp id fun hq => (show noDraw c1 = true ∧ noDraw c2 = true by simpa [noDraw] using hq)
    simp only [execI] at h
    split at h
    · rename_i b hb
      have := rep_bool (aval_rel hR.T hb)
      refine wp_cond this ?_
      cases b with
      | true => exact ih1 (hq1.imp id (·.1)) h hR hG
      | false => exact ih2 (hq1.imp id (·.2)) h hR hG
    · cases h
  | block i c ih =>
    intro hq k x r G a w Q h hR hG
    refine wp_block (ih hq h hR ⟨hG.normal, fun j y G a w hy hR' hp => ?_, hG.ret⟩)
    simp only [exitK] at hy
    simp only [Exit.inBlock]
    cases hb : Nat.beq i j with
    | true =>
      rw [hb] at hy
      rw [if_pos (beq_eq hb).symm]
      exact hG.normal y G a w hy hR' hp
    | false =>
      rw [hb] at hy
      rw [if_neg (by rintro rfl; rw [Nat.beq_refl] at hb; cases hb)]
      exact hG.exits j y G a w hy hR' hp
  | loop c ih =>
    intro hq k x r G a w Q h hR hG
    simp only [execI] at h
    refine wp_loop_rounds n ?_
    have key : ∀ (m : Nat) (x1 : AS) (G1 : Gh) (a : Act) (w : World), (Nat.rec (motive := fun _ => AS → Option ρ) (fun _ => none) (fun _ again x => execI P E J inl f n c { k with normal := again } x) m x1) = some r → RQ q F w0 M0 G1 x1 a w → Pres G x.s G1 x1.s → Code.rounds P c Q m a w := by
      intro m
      induction m with
      | zero => intro x1 G1 a w h _ _; cases h
      | succ m ihm =>
        intro x1 G1 a w h hR1 hp1
        rw [rounds_succ]
        exact ih hq h hR1 ⟨fun y G a w hy hR' hp => ihm y G a w hy hR' (hp1.trans hp), fun i y G a w e q p => hG.exits i y G a w e q (hp1.trans p), fun y G a w e q p => hG.ret y G a w e q (hp1.trans p)⟩
    exact key n x G a w h hR (Pres.refl _ _)
  | exit i => intro _ k x r G a w Q h hR hG; exact wp_exit (hG.exits i x G a w h hR (Pres.refl _ _))
  | ret => intro _ k x r G a w Q h hR hG; exact wp_ret (hG.ret x G a w h hR (Pres.refl _ _))
  | _ => intros; rename_i h _ _; cases h

theorem resI_rel (hT : TOk P) {G : Gh} {x : AS} {a : Act} {w : World} (hR : R F w0 M0 G x a w) {fn : Func} {out : AV × St} (h : resI P fn x = some out) : out.2 = x.s ∧ ∃ v, (Go.results fn a.tmps).run P w = .ok v w ∧ ARel G x.s out.1 v := by
  have hrun : ∀ bs, resAVs P false x fn.results.toList = some bs → ∃ us : List Value, LRel G x.s bs us ∧ (Go.results fn a.tmps).run P w = .ok (if us.length = 1 then us.getD 0 undef else .tuple us.toArray) w := by
    intro bs hb
    obtain ⟨us, g1, g2⟩ := resAVs_rel hT hR hb
    refine ⟨us, g1, ?_⟩
    unfold Go.results
    rw [Sem.run_bind, Array.mapM_eq_mapM_toList, Sem.run_map]
    have g3 := g2
    refine (congrArg (fun z : Result (List Value) => (z.andThen fun a w' => Result.ok a.toArray w').andThen fun vs w' => (pure (if h : vs.size = 1 then vs[0] else .tuple vs) : Sem Value).run P w') (show _ = Result.ok us w from g3)).trans ?_
    simp only [Result.andThen_ok]
    by_cases h1 : us.length = 1
    · simp [h1, List.getD]
    · simp [h1]
  unfold resI at h
  split at h
  · rename_i v hv
    obtain rfl := Option.some.inj h
    obtain ⟨us, g1, g2⟩ := hrun _ hv
    have hl := g1.1
    simp only [List.length_cons, List.length_nil] at hl
    rw [if_pos (by simpa using hl)] at g2
    have h0 : us[0]? = some (us.getD 0 undef) := by
      have : 0 < us.length := by omega
      simp [List.getD, List.getElem?_eq_getElem this]
    exact ⟨rfl, _, g2, g1.2 0 v _ rfl h0⟩
  · rename_i vs hne hvs
    split at h
    · rename_i ps hps
      obtain rfl := Option.some.inj h
      obtain ⟨us, g1, g2⟩ := hrun _ hvs
      obtain ⟨l1, l2⟩ := toPVs_get hps
      have hne1 : ¬ us.length = 1 := by
        intro e
        have := g1.1
        rw [e] at this
        obtain ⟨v, hv⟩ := List.length_eq_one_iff.1 this.symm
        exact hne v hv
      rw [if_neg hne1] at g2
      refine ⟨rfl, _, g2, PRep.tup ps us (g1.1.trans l1.symm) fun k p z e1 e2 => ?_⟩
      have hk : k < vs.length := by rw [← l1]; exact (List.getElem?_eq_some_iff.1 e1).1
      obtain ⟨p', r1, r2⟩ := l2 k _ (List.getElem?_eq_getElem hk)
      rw [e1] at r1
      obtain rfl := Option.some.inj r1
      exact toPV_rel (g1.2 k vs[k] z (List.getElem?_eq_getElem hk) e2) r2
    · cases h
  · cases h

theorem slots_rel {G : Gh} {s : St} {l : List AV} {vs : Array Value} (h : LRel G s l vs.toList) (n : Nat) : FRel G s (l ++ List.replicate (n - l.length) .undef) (vs ++ Array.replicate (n - vs.size) undef) := by
  have hl : vs.size = l.length := by have := h.1; simpa using this
  refine ⟨by simp [hl], fun i b v e1 e2 => ?_⟩
  by_cases hi : i < l.length
  · rw [List.getElem?_append_left hi] at e1
    rw [Array.getElem?_append_left (by rw [hl]; exact hi)] at e2
    exact h.2 i b v e1 (by simpa using e2)
  · rw [List.getElem?_append_right (by omega)] at e1
    rw [Array.getElem?_append_right (by rw [hl]; omega)] at e2
    have e1' := (List.mem_replicate.1 (List.mem_of_getElem? e1)).2
    subst e1'
    have e2' : v ∈ (Array.replicate (n - vs.size) undef) := Array.mem_of_getElem? e2
    exact (Array.mem_replicate.1 e2').2
theorem inlRun_sound (hT : TOk P) (hF : FOk P) (hc : CallOk P E.call) (hJ : InlOk P J) (hD : DrawOk P E f (AV × St)) {n : Nat} {l : List AV} {s : St} {out : AV × St} (h : inlRun P E J inl f n l s = some out) : ISpec P f l s out := by
  unfold inlRun at h
  split at h
  · rename_i fn hfn
    split at h
    · rename_i c hcode
      refine ⟨⟨fn, hfn, by rw [hcode]; rfl⟩, fun F w0 M0 G w vs hS hFr => ?_⟩
      have done : ∀ y G' a w', resI P fn y = some out → RQ nilQ F w0 M0 G' y a w' → Pres G s G' y.s → a.defers = [] ∧ ∃ v, (Go.results fn a.tmps).run P w' = .ok v w' ∧ ∃ u G'', Ending.returned v = .returned u ∧ SRel F w0 M0 G'' out.2 w' ∧ Pres G s G'' out.2 ∧ ARel G'' out.2 out.1 u := fun y G' a w' hy hR hp => by
        obtain ⟨e, v, k1, k2⟩ := resI_rel hT hR.toR hy
        exact ⟨hR.D, v, k1, v, G', rfl, by rw [e]; exact hR.S, by rw [e]; exact hp, by rw [e]; exact k2⟩
      exact calls_of_wp hfn hcode (execI_sound (F := F) (w0 := w0) (M0 := M0) (G := G) hT hF hc hJ hD c (.inl ⟨fun _ h => h, rfl⟩) h ⟨hS, slots_rel hFr _, rfl⟩ ⟨fun y G' a w' hy hR hp => done y G' a w' hy hR hp, fun i y G a w' hy hR => (by cases hy), fun y G' a w' hy hR hp => done y G' a w' hy hR hp⟩)
    · cases h
  · cases h
theorem inlN_sound (hT : TOk P) (hF : FOk P) (hm : P.follows .mixedOrders = true) (hc : CallOk P E.call) : ∀ n, InlOk P (inlN P E inl n)
  | 0 => fun g l s r h => by cases h
  | n + 1 => fun g l s r h => by
    simp only [inlN] at h
    replace h := bif_some h; obtain ⟨_, h⟩ := h
    exact inlRun_sound hT hF hc (inlN_sound hT hF hm hc n) (draw_sound hT hF hm hc) h
theorem runI_sound (hT : TOk P) (hF : FOk P) (hm : P.follows .mixedOrders = true) (hc : CallOk P E.call) (hJ : InlOk P J) {n : Nat} {args : List Arg} {out : Out} (h : runI P E J inl f n args = some out) : CSpec P f args out := by
  unfold runI at h
  split at h
  · rename_i fn hfn
    split at h
    · rename_i c hcode
      replace h := bif_some h; obtain ⟨h1, h⟩ := h
      refine ⟨⟨fn, hfn, by rw [hcode]; rfl⟩, fun F M G w vs hS hFr => ?_⟩
      have done : ∀ y G' a w', results P E f fn y = some out → RQ nilQ F w M G' y a w' → a.defers = [] ∧ ∃ v, (Go.results fn a.tmps).run P w' = .ok v w' ∧ ∃ v' G'' s', Ending.returned v = .returned v' ∧ SRel F w M G'' s' w' ∧ OutRel G'' s' out v' ∧ refs s' = some out.2 := fun y G' a w' hy hR => by
        obtain ⟨v, k1, G'', s', k2, k3⟩ := results_rel hT hR.toR hy
        exact ⟨hR.D, v, k1, v, G'', s', rfl, k2, k3.1, k3.2⟩
      have hL : LRel G (enter args).2 (enter args).1 vs.toList := ⟨by simp [hFr.1], fun i b v e1 e2 => hFr.2 i b v e1 (by simpa using e2)⟩
      exact calls_of_wp hfn hcode (execI_sound (F := F) (w0 := w) (M0 := M) (G := G) hT hF hc hJ (draw_sound hT hF hm hc) c (.inl ⟨fun _ h => h, rfl⟩) h ⟨hS, slots_rel hL _, rfl⟩ ⟨fun y G' a w' hy hR _ => done y G' a w' hy hR, fun i y G a w' hy hR => (by cases hy), fun y G' a w' hy hR _ => done y G' a w' hy hR⟩)
    · cases h
  · cases h
end
end Go.AL

/- A function that asks for a panic (recover) in its first operation, called when another one ends. -/
set_option linter.unusedVariables false
set_option linter.unusedSimpArgs false
namespace Go.AL
open Go.RowKit

def recov : FrameMode → Option (Value × FrameMode)
  | .panicking ({ v, recovered := false, goexit := false } :: older) => some (v, .panicking ({ v, recovered := true } :: older))
  | _ => none
/-- What recover comes to, and how the frame below goes on. -/
def recovers (u : FrameMode) : Value × FrameMode := (recov u).getD (.nilIface, u)

theorem tryRecover_eq (fr c : Frame) (cs : List Frame) (h : fr.kind = .deferred) : tryRecover fr (c :: cs) = (recov c.mode).map fun q => (q.1, { c with mode := q.2 } :: cs) := by
  unfold tryRecover recov
  rw [h]
  simp only
  split
  · rename_i e; rw [e]; rfl
  · rename_i e
    split
    · rename_i e2; exact (e _ _ e2).elim
    · rfl

theorem callsD_recover {P : Program} {f : FuncId} {fn : Func} {id : Nat} {ops : Array Oper} {c2 : Code} {args : Array Value} {u : FrameMode} {w : World} {R : Ending → World → Prop} {o : Oper} {n : Nat}
    (hf : P.funcs[f]? = some fn) (hb : fn.body = some (.seq (.region id ops false) c2)) (hn : ops.size = n + 1) (h0 : ops[0]? = some o) (hg : o.guard = none) (hop : ∀ ev, execOp ev o = pure .recover)
    (h : wpOps P ops (Exit.then (c2.wp P (bodyPost P fn R)) (bodyPost P fn R)) (List.range' 1 n) (({ tmps := args ++ Array.replicate (fn.ntmps - args.size) undef, defers := [] } : Act).put o.dst (recovers u).1) w) :
    CallsD P f args u w fun e u' w' => u' = (recovers u).2 ∧ R e w' := by
  intro c₀ cs hu
  let b : Frame := { (default : Frame) with fn := f, kind := .deferred }
  have henter : Frame.enter P f args .deferred = b.at { tmps := args ++ Array.replicate (fn.ntmps - args.size) undef, defers := [] } [.code (.seq (.region id ops false) c2)] := by
    simp [Frame.enter, Frame.at, hf, hb, b]
  generalize ha : ({ tmps := args ++ Array.replicate (fn.ntmps - args.size) undef, defers := [] } : Act) = a at h henter
  have hr : List.range ops.size = 0 :: List.range' 1 n := by rw [hn, List.range_eq_range', List.range'_succ]
  let c₁ : Frame := { c₀ with mode := (recovers u).2 }
  have hs1 : step P (lone (b.at a [.code (.seq (.region id ops false) c2)]) (c₀ :: cs) w) = .next (lone (b.at a [.code (.region id ops false), .code c2]) (c₀ :: cs) w) := step_seq
  have hs2 : step P (lone (b.at a [.code (.region id ops false), .code c2]) (c₀ :: cs) w) = .next (lone (b.at a [.inRegion ops (0 :: List.range' 1 n), .code c2]) (c₀ :: cs) w) := by
    have := step_region (P := P) (b := b) (a := a) (k := [.code c2]) (cs := c₀ :: cs) (w := w) (ops := ops) (id := id)
    rw [hr] at this
    exact this
  have hs3 : step P (lone (b.at a [.inRegion ops (0 :: List.range' 1 n), .code c2]) (c₀ :: cs) w) = .next (lone (b.at (a.put o.dst (recovers u).1) [.inRegion ops (List.range' 1 n), .code c2]) (c₁ :: cs) w) := by
    have hst := stepG_op (P := P) (b := b) (a := a) (k := [.code c2]) (cs := c₀ :: cs) (w := w) (rest := List.range' 1 n) h0 (show Region.wanted o (yielded ops a.tmps) = true by simp [Region.wanted, hg])
    refine step_lone_go ?_
    rw [hst, hop]
    have hfin : ∀ v, (b.at a [.inRegion ops (0 :: List.range' 1 n), .code c2]).finish v = b.at (a.put o.dst v) [.inRegion ops (List.range' 1 n), .code c2] := by
      intro v; rw [Frame.finish_at, h0]; rfl
    rw [← hfin]
    have hround : (b.at a [.inRegion ops (0 :: List.range' 1 n), .code c2]).roundOf = none := rfl
    have htry := tryRecover_eq (b.at a [.inRegion ops (0 :: List.range' 1 n), .code c2]) c₀ cs rfl
    simp only [stepG.apply, Sem.runT_eq, GStep.bare_after, Sem.run_pure, if_true]
    rw [hround]
    simp only
    rw [htry, hu]
    cases hq : recov u with
    | none =>
      have : c₁ = c₀ := by
        show ({ c₀ with mode := (recovers u).2 } : Frame) = c₀
        unfold recovers
        rw [hq]
        simp only [Option.getD_none]
        rw [← hu]
      rw [this]
      simp only [Option.map_none, recovers, hq, Option.getD_none, GStep.bare_go]
    | some q =>
      simp only [Option.map_some, recovers, hq, Option.getD_some, GStep.bare_go, c₁]
  obtain ⟨e, a', w', hq, harr⟩ := wp_ops (P := P) (List.range' 1 n) _ _ h b [.code c2] (c₁ :: cs)
  have hpre : Steps P (lone (Frame.enter P f args .deferred) (c₀ :: cs) w) (lone (b.at (a.put o.dst (recovers u).1) [.inRegion ops (List.range' 1 n), .code c2]) (c₁ :: cs) w) := by
    rw [henter]
    exact .head hs1 (.head hs2 (.one hs3))
  have fin : ∀ (e : Exit) (a' : Act) (w' : World), bodyPost P fn R e a' w' → Arrives P (lone (b.at (a.put o.dst (recovers u).1) [.inRegion ops (List.range' 1 n), .code c2]) (c₁ :: cs) w) b [] (c₁ :: cs) e a' w' →
      ∃ e u' w' fr, (u' = (recovers u).2 ∧ R e w') ∧ Comes P (lone (Frame.enter P f args .deferred) (c₀ :: cs) w) (lone fr ({ c₀ with mode := u' } :: cs) w') e ∧ fr.kind = .deferred ∧ fr.going P w' e := by
    intro e a' w' hq harr
    cases e with
    | normal =>
      obtain ⟨hd, v, hr, hR⟩ := hq
      exact ⟨.returned v, _, w', _, ⟨rfl, hR⟩, Steps.trans hpre (Steps.trans harr (.one step_end)), rfl, rfl, hd, fn, hf, hr⟩
    | ret =>
      obtain ⟨hd, v, hr, hR⟩ := hq
      obtain ⟨todo, hs⟩ := harr
      exact ⟨.returned v, _, w', _, ⟨rfl, hR⟩, Steps.trans hpre hs, rfl, rfl, hd, fn, hf, hr⟩
    | panic chain =>
      obtain ⟨hd, hR⟩ := hq
      obtain ⟨todo, hs⟩ := harr
      exact ⟨.panicked chain, _, w', _, ⟨rfl, hR⟩, Steps.trans hpre hs, rfl, rfl, hd, fn, hf⟩
    | exit id => exact hq.elim
    | goto l => exact hq.elim
    | outgrown => exact ⟨.outgrown, _, w', b, ⟨rfl, hq⟩, Outgrown.of_steps hpre (harr.resolve_left (by simp [b])), rfl, trivial⟩
  cases e with
  | normal =>
    obtain ⟨e2, a2, w2, hq2, harr2⟩ := hq b [] (c₁ :: cs)
    exact fin e2 a2 w2 hq2 (.of_steps harr harr2)
  | ret => exact fin .ret a' w' hq (.pass (x := .code c2) rfl (fun _ _ => .inl (by simp)) harr)
  | panic ch => exact fin (.panic ch) a' w' hq (.pass (x := .code c2) rfl (fun _ _ => .inl (by simp)) harr)
  | exit id => exact hq.elim
  | goto l => exact hq.elim
  | outgrown => exact fin .outgrown a' w' hq (.pass (x := .code c2) rfl (fun _ _ => .inl (by simp)) harr)
end Go.AL

/- Calls whose answers are known: values compared; a table of answers laid over calls, and over calls that share the store. -/
set_option linter.unusedVariables false
set_option linter.unusedSimpArgs false
namespace Go.AL

mutual
def PV.same : PV → PV → Bool
  | .int k n, y => match y with | .int k' n' => decide (k = k') && decide (n = n') | _ => false
  | .bool b, y => match y with | .bool b' => b == b' | _ => false
  | .str s, y => match y with | .str s' => s == s' | _ => false
  | .nils, y => match y with | .nils => true | _ => false
  | .lst l, y => match y with | .lst l' => PV.sameL l l' | _ => false
  | .nn l, y => match y with | .nn l' => PV.sameL l l' | _ => false
  | .agg l, y => match y with | .agg l' => PV.sameL l l' | _ => false
  | .tup l, y => match y with | .tup l' => PV.sameL l l' | _ => false
  | .ptr l, y => match y with | .ptr l' => PV.sameL l l' | _ => false
  | .fn f l, y => match y with | .fn f' l' => Nat.beq f f' && PV.sameL l l' | _ => false
  | .nilI, y => match y with | .nilI => true | _ => false
  | .iface t v, y => match y with | .iface t' v' => Nat.beq t t' && PV.same v v' | _ => false
  | .nilf, y => match y with | .nilf => true | _ => false
  | .nilp, y => match y with | .nilp => true | _ => false
def PV.sameL : List PV → List PV → Bool
  | [], y => match y with | [] => true | _ => false
  | a :: l, y => match y with | b :: m => PV.same a b && PV.sameL l m | [] => false
end
mutual
theorem PV.same_eq : ∀ (a b : PV), PV.same a b = true → a = b
  | .int k n, y, h => by cases y <;> simp_all [PV.same]
  | .bool b, y, h => by cases y <;> simp_all [PV.same]
  | .str s, y, h => by cases y <;> simp_all [PV.same]
  | .nils, y, h => by cases y <;> simp_all [PV.same]
  | .lst l, y, h => by cases y <;> simp [PV.same] at h; rw [PV.sameL_eq l _ h]
  | .nn l, y, h => by cases y <;> simp [PV.same] at h; rw [PV.sameL_eq l _ h]
  | .agg l, y, h => by cases y <;> simp [PV.same] at h; rw [PV.sameL_eq l _ h]
  | .tup l, y, h => by cases y <;> simp [PV.same] at h; rw [PV.sameL_eq l _ h]
  | .ptr l, y, h => by cases y <;> simp [PV.same] at h; rw [PV.sameL_eq l _ h]
  | .fn f l, y, h => by cases y <;> simp [PV.same] at h; rw [PV.sameL_eq l _ h.2, h.1]
  | .nilI, y, h => by cases y <;> simp_all [PV.same]
  | .iface t v, y, h => by cases y <;> simp [PV.same] at h; rw [PV.same_eq v _ h.2, h.1]
  | .nilf, y, h => by cases y <;> simp_all [PV.same]
  | .nilp, y, h => by cases y <;> simp_all [PV.same]
theorem PV.sameL_eq : ∀ (a b : List PV), PV.sameL a b = true → a = b
  | [], y, h => by cases y <;> simp_all [PV.sameL]
  | a :: l, y, h => by cases y <;> simp [PV.sameL] at h; rw [PV.same_eq a _ h.1, PV.sameL_eq l _ h.2]
end
def Arg.same : Arg → Arg → Bool
  | .pv p, y => match y with | .pv q => p.same q | _ => false
  | .bld k l, y => match y with | .bld k' l' => Nat.beq k k' && PV.sameL l l' | _ => false
  | .vec k l, y => match y with | .vec k' l' => Nat.beq k k' && PV.sameL l l' | _ => false
  | .box l, y => match y with | .box l' => PV.sameL l l' | _ => false
  | _, _ => false
theorem Arg.same_eq (a b : Arg) (h : Arg.same a b = true) : a = b := by
  cases a <;> cases b <;> simp [Arg.same] at h
  · rw [PV.same_eq _ _ h]
  · rw [h.1, PV.sameL_eq _ _ h.2]
  · rw [h.1, PV.sameL_eq _ _ h.2]
  · rw [PV.sameL_eq _ _ h]
def Arg.sameL : List Arg → List Arg → Bool
  | [], y => match y with | [] => true | _ => false
  | a :: l, y => match y with | b :: m => Arg.same a b && Arg.sameL l m | [] => false
theorem Arg.sameL_eq : ∀ (a b : List Arg), Arg.sameL a b = true → a = b
  | [], y, h => by cases y <;> simp_all [Arg.sameL]
  | a :: l, y, h => by cases y <;> simp [Arg.sameL] at h; rw [Arg.same_eq a _ h.1, Arg.sameL_eq l _ h.2]

/-- Calls, of which some answers are in a table. -/
def memo (call : FuncId → List Arg → Option Out) : List (FuncId × List Arg × Out) → FuncId → List Arg → Option Out
  | [], f, as => call f as
  | (g, bs, o) :: l, f, as => bif Nat.beq g f && Arg.sameL bs as then some o else memo call l f as
theorem memo_ok {P : Program} {call : FuncId → List Arg → Option Out} (hc : CallOk P call) : ∀ (l : List (FuncId × List Arg × Out)), (∀ e, e ∈ l → e.2.1.all plainArg = true → CSpec P e.1 e.2.1 e.2.2) → CallOk P (memo call l)
  | [], _ => hc
  | (g, bs, o) :: l, h => by
    intro f as out hcall
    unfold memo at hcall
    cases hb : (Nat.beq g f && Arg.sameL bs as) with
    | false => rw [hb] at hcall; exact memo_ok hc l (fun e he => h e (List.mem_cons_of_mem _ he)) f as out hcall
    | true =>
      rw [hb] at hcall
      obtain rfl := Option.some.inj hcall
      simp only [Bool.and_eq_true] at hb
      obtain rfl := Nat.eq_of_beq_eq_true hb.1
      obtain rfl := Arg.sameL_eq _ _ hb.2
      exact h _ (List.mem_cons_self ..)

def AV.same : AV → AV → Bool
  | .pv p, y => match y with | .pv q => p.same q | _ => false
  | .box i o, y => match y with | .box i' o' => Nat.beq i i' && Nat.beq o o' | _ => false
  | .undef, y => match y with | .undef => true | _ => false
  | .any, y => match y with | .any => true | _ => false
  | .bld i e l, y => match y with | .bld i' e' l' => Nat.beq i i' && (Nat.beq e e' && PV.sameL l l') | _ => false
  | _, _ => false
theorem AV.same_eq (a b : AV) (h : AV.same a b = true) : a = b := by
  cases a <;> cases b <;> simp [AV.same] at h
  · rw [PV.same_eq _ _ h]
  · rw [h.1, h.2]
  · rw [h.1, h.2.1, PV.sameL_eq _ _ h.2.2]
  · rfl
  · rfl
def AV.sameL : List AV → List AV → Bool
  | [], y => match y with | [] => true | _ => false
  | a :: l, y => match y with | b :: m => AV.same a b && AV.sameL l m | [] => false
theorem AV.sameL_eq : ∀ (a b : List AV), AV.sameL a b = true → a = b
  | [], y, h => by cases y <;> simp_all [AV.sameL]
  | a :: l, y, h => by cases y <;> simp [AV.sameL] at h; rw [AV.same_eq a _ h.1, AV.sameL_eq l _ h.2]
def sameBx : List (Bool × List AV) → List (Bool × List AV) → Bool
  | [], y => match y with | [] => true | _ => false
  | a :: l, y => match y with | b :: m => a.1 == b.1 && (AV.sameL a.2 b.2 && sameBx l m) | [] => false
theorem sameBx_eq : ∀ (a b : List (Bool × List AV)), sameBx a b = true → a = b
  | [], y, h => by cases y <;> simp_all [sameBx]
  | a :: l, y, h => by
    cases y <;> simp [sameBx] at h
    rw [sameBx_eq l _ h.2.2]
    congr 1
    exact Prod.ext h.1 (AV.sameL_eq _ _ h.2.1)
/-- Stores without vectors. -/
def St.same (a b : St) : Bool := sameBx a.bx b.bx && (a.vc.isEmpty && (b.vc.isEmpty && (decide (a.tp = b.tp) && (Nat.beq a.nr b.nr && Nat.beq a.nv b.nv))))
theorem St.same_eq (a b : St) (h : St.same a b = true) : a = b := by
  obtain ⟨b1, v1, t1, r1, n1⟩ := a
  obtain ⟨b2, v2, t2, r2, n2⟩ := b
  simp [St.same] at h
  obtain ⟨h1, h2, h3, h4, h5, h6⟩ := h
  rw [sameBx_eq _ _ h1, h2, h3, h4, h5, h6]
/-- Calls that share the store, of which some answers are in a table. -/
def memoI (J : Inl) : List (FuncId × List AV × St × (AV × St)) → Inl
  | [], f, as, s => J f as s
  | (g, bs, t, o) :: l, f, as, s => bif Nat.beq g f && (AV.sameL bs as && St.same t s) then some o else memoI J l f as s
theorem memoI_ok {P : Program} {J : Inl} (hc : InlOk P J) : ∀ (l : List (FuncId × List AV × St × (AV × St))), (∀ e, e ∈ l → ISpec P e.1 e.2.1 e.2.2.1 e.2.2.2) → InlOk P (memoI J l)
  | [], _ => hc
  | (g, bs, t, o) :: l, h => by
    intro f as s out hcall
    unfold memoI at hcall
    cases hb : (Nat.beq g f && (AV.sameL bs as && St.same t s)) with
    | false => rw [hb] at hcall; exact memoI_ok hc l (fun e he => h e (List.mem_cons_of_mem _ he)) f as s out hcall
    | true =>
      rw [hb] at hcall
      obtain rfl := Option.some.inj hcall
      simp only [Bool.and_eq_true] at hb
      obtain rfl := Nat.eq_of_beq_eq_true hb.1
      obtain rfl := AV.sameL_eq _ _ hb.2.1
      obtain rfl := St.same_eq _ _ hb.2.2
      exact h _ (List.mem_cons_self ..)
end Go.AL
