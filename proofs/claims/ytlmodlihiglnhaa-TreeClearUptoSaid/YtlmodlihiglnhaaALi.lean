/- Operations that depend on their operands alone: the rest, and calls. -/
import Derived.Test.YtlmodlihiglnhaaALh
set_option linter.unusedVariables false
set_option linter.unusedSimpArgs false
namespace Go.AL
open Go.RowKit

def OutRel (G : Gh) (s : St) : Out → Value → Prop
  | (.pv p, _), v => PRep G.M p v
  | (.bld sz xs, _), v => (xs = [] ∧ v = .slice none 0 0 ∧ 0 < sz) ∨ ∃ i e, s.tp[i]? = some (e, sz) ∧ ARel G s (.bld i e xs) v
  | (.vec sz xs, _), v => ∃ i ver, s.vc[i]? = some (some (ver, sz, xs)) ∧ ARel G s (.vec i ver) v
  | (.box _, _), _ => False

def HasBody (P : Program) (g : FuncId) : Prop := ∃ fn, P.funcs[g]? = some fn ∧ fn.body.isNone = false
def FOk (P : Program) : Prop := ∀ (g : Nat) fn, P.funcs[g]? = some fn → (fn.name == "runtime.NumGoroutine") = false

/-- What a call comes to. -/
def CSpec (P : Program) (g : FuncId) (args : List Arg) (out : Out) : Prop := HasBody P g ∧
  ∀ (F : Nat → Prop) (M : Mem) (G : Gh) (w : World) (vs : Array Value), SRel F w M G (enterT args ⟨[], [], []⟩).2 w → FRel G (enterT args ⟨[], [], []⟩).2 (enterT args ⟨[], [], []⟩).1 vs →
    Calls P g vs w fun e w' => ∃ v G' s', e = .returned v ∧ SRel F w M G' s' w' ∧ OutRel G' s' out v
def CallOk (P : Program) (call : FuncId → List Arg → Option Out) : Prop := ∀ g args out, call g args = some out → args.all plainArg = true → CSpec P g args out

section
variable {F : Nat → Prop} {w0 : World} {M0 : Mem} {G : Gh} {s : St} {w : World}

theorem Ext.mem {G : Gh} {M' : Mem} (s : St) (h : G.M.le M') : Ext G s { G with M := M' } s :=
  ⟨h, Nat.le_refl _, Nat.le_refl _, Nat.le_refl _, fun _ _ _ h => h, fun i _ cur xs h => ⟨cur, xs, h, Nat.le_refl _, fun _ => ⟨rfl, rfl⟩⟩, fun i _ cur h => ⟨cur, h, Nat.le_refl _, fun _ => rfl⟩⟩

/-- Behind a call that was handed plain values alone. -/
theorem SRel.absorb (h : SRel F w0 M0 G s w) {G' : Gh} {s' : St} {w' : World} (hc : SRel (fun _ => False) w G.M G' s' w') : SRel F w0 M0 { G with M := G'.M } s w' := by
  have he := Ext.mem s hc.base
  refine ⟨hc.os.trans h.os, hc.tape.trans h.tape, hc.output.trans h.output, Nat.le_trans h.size hc.size, ?_, hc.agree, Mem.le_trans h.base hc.base, ?_, ?_, ?_, ?_, ?_, ?_⟩
  · intro k hk hF
    rw [hc.old k (Nat.lt_of_lt_of_le hk h.size) (fun e => e)]
    exact h.old k hk hF
  · intro a v e
    rcases hc.newM a v e with e | e | e
    · exact h.newM a v e
    · exact .inr (.inl (Nat.le_trans h.size e))
    · exact e.elim
  · intro b hb
    obtain ⟨g1, g2⟩ := h.own b hb
    exact ⟨Nat.lt_of_lt_of_le g1 hc.size, g2⟩
  · intro a v e
    rcases hc.newM a v e with e | e | e
    · exact h.ownM a v e
    rotate_left
    · exact e.elim
    · left
      cases ho : G.own a.block with
      | free => rfl
      | _ => have := (h.own a.block (by rw [ho]; simp)).1; omega
  · intro i z cs b h1 h2
    obtain ⟨q1, q2, q3, vs, T, q4, q5, q6⟩ := h.bx i z cs b h1 h2
    exact ⟨q1, Nat.lt_of_lt_of_le q2 hc.size, q3, vs, T, by rw [hc.old b q2 (fun e => e)]; exact q4, q5, fun k c v hk hv => ⟨(q6 k c v hk hv).1.ext he, (q6 k c v hk hv).2⟩⟩
  · intro i ver sz xs h1
    obtain ⟨q0, q1, q2⟩ := h.vc i ver sz xs h1
    refine ⟨q0, q1, ?_⟩
    rcases q2 with q2 | ⟨b, o, vs, T, g1, g2, g3, g4, g5, g6⟩
    · exact .inl q2
    · refine .inr ⟨b, o, vs, T, g1, g2, ?_, g4, g5, fun j x k y e1 e2 => ?_⟩
      · rw [hc.old b (h.own b (by rw [g2]; simp)).1 (fun e => e)]; exact g3
      · obtain ⟨v, e3, e4⟩ := g6 j x k y e1 e2
        exact ⟨v, e3, e4.mono hc.base⟩
  · intro i e h1
    obtain ⟨q0, q2⟩ := h.tp i e h1
    refine ⟨q0, ?_⟩
    rcases q2 with q2 | ⟨b, o, vs, T, g1, g2, g3, g4⟩
    · exact .inl q2
    · exact .inr ⟨b, o, vs, T, g1, g2, by rw [hc.old b (h.own b (by rw [g2]; simp)).1 (fun e => e)]; exact g3, g4⟩

def G0 (M : Mem) : Gh := ⟨M, fun _ => .free, fun _ => none, fun _ => ⟨none, 0, 1⟩, fun _ => ⟨none, 0, 1⟩⟩
theorem SRel.start (h : SRel F w0 M0 G s w) : SRel (fun _ => False) w G.M (G0 G.M) ⟨[], [], []⟩ w :=
  ⟨rfl, rfl, rfl, Nat.le_refl _, fun _ _ _ => rfl, h.agree, Mem.le_refl _, fun _ _ e => .inl e, fun b hb => absurd rfl hb, fun _ _ _ => .inl rfl, fun i z cs b h1 _ => by simp at h1, fun i v sz xs h1 => by simp at h1, fun i e h1 => by simp at h1⟩
end

theorem enterT_pv (ps : List PV) (s : St) : enterT (ps.map .pv) s = (ps.map .pv, s) := by
  induction ps with
  | nil => rfl
  | cons p ps ih => simp [enterT, ih]
theorem plain_pv (ps : List PV) : (ps.map Arg.pv).all plainArg = true := by
  induction ps with
  | nil => rfl
  | cons p ps ih => simp [ih, plainArg]

/-- A call with plain values, and a plain result. -/
theorem call_pv {P : Program} {call : FuncId → List Arg → Option Out} (hc : CallOk P call) {g : FuncId} {ps : List PV} {r : PV} (h : (call g (ps.map .pv)).bind retPV = some r) : HasBody P g ∧
    ∀ {F : Nat → Prop} {w0 : World} {M0 : Mem} {G : Gh} {s : St} {w : World} {vs : Array Value}, SRel F w0 M0 G s w → vs.size = ps.length → (∀ (i : Nat) p v, ps[i]? = some p → vs[i]? = some v → PRep G.M p v) →
      Calls P g vs w fun e w' => ∃ v G', e = .returned v ∧ SRel F w0 M0 G' s w' ∧ Ext G s G' s ∧ PRep G'.M r v := by
  cases ho : call g (ps.map .pv) with
  | none => rw [ho] at h; cases h
  | some out =>
    rw [ho] at h
    simp only [Option.bind_some] at h
    obtain ⟨hb, hs⟩ := hc g _ out ho (plain_pv ps)
    refine ⟨hb, fun {F w0 M0 G s w vs} hS hl hr => ?_⟩
    rw [enterT_pv] at hs
    refine (hs (fun _ => False) G.M (G0 G.M) w vs hS.start ⟨by simpa using hl, fun i a v h1 h2 => ?_⟩).mono ?_
    · rw [List.getElem?_map] at h1
      cases hp : ps[i]? with
      | none => rw [hp] at h1; cases h1
      | some p => rw [hp] at h1; obtain rfl := Option.some.inj h1; exact hr i p v hp h2
    · rintro e w' ⟨v, G', s', rfl, k1, k2⟩
      refine ⟨v, _, rfl, hS.absorb k1, Ext.mem s k1.base, ?_⟩
      obtain ⟨arg, outs⟩ := out
      cases arg with
      | pv p =>
        cases outs with
        | nil => obtain rfl := Option.some.inj h; exact k2
        | cons _ _ => cases h
      | bld sz xs =>
        cases outs with
        | nil =>
          obtain rfl := Option.some.inj h
          rcases k2 with ⟨rfl, rfl, _⟩ | ⟨i, e, _, k2⟩
          · exact PRep.weak (p := .nils) .nils
          · exact k2.2.1
        | cons _ _ => cases h
      | vec sz xs => cases h
      | box cs => cases h

section
variable {P : Program} {av : Av} {ty : TypeId}

theorem run_callFunc (hF : FOk P) {g : FuncId} (hb : HasBody P g) (args : Array Value) (w : World) : (callFunc g args).run P w = .ok (.enter g args) w := by
  obtain ⟨fn, h1, h2⟩ := hb
  have h3 := hF g fn h1
  simp only [callFunc]
  simp only [Sem.run_bind, run_program, Result.andThen_ok, h1, h2, h3]
  rfl

theorem avs_rel {G : Gh} {s : St} {a : Act} (hA : Avs av G s a) : ∀ {l : List Operand} {bs : List AV}, l.mapM av = some bs → bs.length = l.length ∧ ∀ (i : Nat) b y, bs[i]? = some b → l[i]? = some y → ARel G s b (a.eval y)
  | [], bs, h => by simp at h; subst h; exact ⟨rfl, by simp⟩
  | y :: l, bs, h => by
    rw [List.mapM_cons] at h
    cases hy : av y with
    | none => rw [hy] at h; simp at h
    | some b =>
      cases hl : l.mapM av with
      | none => rw [hy, hl] at h; simp at h
      | some bs' =>
        rw [hy, hl] at h
        simp at h
        subst h
        obtain ⟨g1, g2⟩ := avs_rel hA hl
        refine ⟨by simp [g1], fun i b' y' h1 h2 => ?_⟩
        cases i with
        | zero => simp at h1 h2; subst h1; subst h2; exact hA y b hy
        | succ i => exact g2 i b' y' (by simpa using h1) (by simpa using h2)

theorem toPVs_rel {G : Gh} {s : St} : ∀ {bs : List AV} {ps : List PV}, toPVs bs = some ps → ps.length = bs.length ∧ ∀ (i : Nat) p v, ps[i]? = some p → (∀ b, bs[i]? = some b → ARel G s b v) → PRep G.M p v
  | [], ps, h => by obtain rfl := Option.some.inj h; exact ⟨rfl, by simp⟩
  | b :: bs, ps, h => by
    simp only [toPVs] at h
    split at h
    · rename_i p ps' hp hps
      obtain rfl := Option.some.inj h
      obtain ⟨g1, g2⟩ := toPVs_rel (G := G) (s := s) hps
      refine ⟨by simp [g1], fun i q v h1 h2 => ?_⟩
      cases i with
      | zero => simp at h1; subst h1; exact toPV_rel (h2 b rfl) hp
      | succ i => exact g2 i q v (by simpa using h1) (fun b' hb' => h2 b' (by simpa using hb'))
    · cases h

/-- The values of several operands. -/
theorem args_rel {G : Gh} {s : St} {a : Act} (hA : Avs av G s a) {l : Array Operand} {bs : List AV} {ps : List PV} (h1 : l.toList.mapM av = some bs) (h2 : toPVs bs = some ps) :
    (l.map a.eval).size = ps.length ∧ ∀ (i : Nat) p v, ps[i]? = some p → (l.map a.eval)[i]? = some v → PRep G.M p v := by
  obtain ⟨g1, g2⟩ := avs_rel hA h1
  obtain ⟨k1, k2⟩ := toPVs_rel (G := G) (s := s) h2
  refine ⟨by simp [k1, g1], fun i p v e1 e2 => k2 i p v e1 fun b hb => ?_⟩
  simp only [Array.getElem?_map] at e2
  cases hy : l[i]? with
  | none => rw [hy] at e2; cases e2
  | some y =>
    rw [hy] at e2
    obtain rfl := Option.some.inj e2
    exact g2 i b y hb (by simpa using hy)

theorem s_call (hF : FOk P) {call : FuncId → List Arg → Option Out} (hc : CallOk P call) {c : Call} {y : Operand} {g : FuncId} {cap : List PV} {bs : List AV} {ps : List PV} {r : PV} (hcal : c.callee = .value y) (hy : av y = some (.pv (.fn g cap)))
    (h1 : c.args.toList.mapM av = some bs) (h2 : toPVs bs = some ps) (h : (call g ((ps ++ cap).map .pv)).bind retPV = some r) : Sound1 P (.call c) ty av (.pv r) := by
  intro F w0 M0 G s a w o hS hA ho _
  obtain ⟨hb, hs⟩ := call_pv hc h
  obtain ⟨vs, e1, e2, e3⟩ := rep_fn (hA y _ hy)
  obtain ⟨k1, k2⟩ := args_rel hA h1 h2
  have hrun : (execOp a.eval o).run P w = .ok (.enter g (c.args.map a.eval ++ vs.toArray)) w := by
    simp [execOp, ho, resolve, hcal, e1, Deferred.ofValue, invoke, run_callFunc hF hb]
  refine OpTo.enter hrun ((hs hS (by rw [Array.size_append, k1, List.length_append]; simp [e2]) fun i p v i1 i2 => ?_).mono ?_)
  · by_cases hi : i < ps.length
    · rw [List.getElem?_append_left hi] at i1
      rw [Array.getElem?_append_left (by rw [k1]; exact hi)] at i2
      exact k2 i p v i1 i2
    · rw [List.getElem?_append_right (by omega)] at i1
      rw [Array.getElem?_append_right (by rw [k1]; omega), k1] at i2
      exact e3 _ p v i1 (by simpa using i2)
  · rintro e w' ⟨v, G', rfl, q1, q2, q3⟩
    exact ⟨v, rfl, G', q1, q2, q3⟩

theorem s_makeFunc {g : FuncId} {caps first : Array Operand} {bs : List AV} {ps : List PV} (hf : first.isEmpty = true) (h1 : caps.toList.mapM av = some bs) (h2 : toPVs bs = some ps) : Sound1 P (.makeFunc (.func g) first caps) ty av (.pv (.fn g ps)) := by
  refine .val fun G s a w o _ hA ho _ => ?_
  obtain ⟨k1, k2⟩ := args_rel hA h1 h2
  have hf' : first = #[] := by simpa using hf
  refine ⟨.func (.func g) #[] (caps.map a.eval), by simp [execOp, ho, Instr.makeFunc, hf'], ?_⟩
  have := PRep.fn (M := G.M) g ps (caps.map a.eval).toList (by simpa using k1) (fun i c v i1 i2 => k2 i c v i1 (by simpa using i2))
  rw [Array.toArray_toList] at this
  exact this
end
end Go.AL
