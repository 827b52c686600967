/- parse.Read of one text is the primitive. -/
import Derived.Test.YtjfibflkfdpllaaGreatDoorS11Read
set_option linter.unusedVariables false
set_option linter.unusedSimpArgs false
set_option maxRecDepth 100000
namespace Go.AL.S11
open Go Go.AL Go.RowKit

def tab1 : List (FuncId × List Arg × Out) := [(26, [.pv (.str shapes)], (.pv (.tup [toksP, .int .i64 0, .int .i64 0]), [])),
  (28, [.box [toksP, .int .i64 0, .int .i64 101]], (.pv shapesP, [.box [toksP, .int .i64 39, .int .i64 101]])), (29, [.pv shapesP], (.pv (.int .i64 0), []))]
noncomputable def C1 : FuncId → List Arg → Option Out := memo (acall Pr T0 100) tab1
theorem J0_ok : InlOk Pr J0 := inlN_sound tok fok mixed (snd0 100) 30
theorem C1_ok : CallOk Pr C1 := memo_ok (snd0 100) tab1 fun e he hp => by
  simp only [tab1, List.mem_cons, List.not_mem_nil, or_false] at he
  rcases he with rfl | rfl | rfl
  · exact snd0 100 _ _ _ r_toks hp
  · exact runI_sound tok fok mixed (snd0 100) J0_ok r_prog
  · exact snd0 100 _ _ _ r_right hp
def T1 : Tab := { T0 with kind := fun f d => bif Nat.beq f 19 && Nat.beq d 26 then 9 else 0 }
noncomputable def E1 : Env := envOf T1 C1
def noJ : Inl := fun _ _ _ => none
theorem noJ_ok : InlOk Pr noJ := fun _ _ _ _ h => by cases h
def no : Nat → Bool := fun _ => false

def fstC : Code → Code | .seq a _ => a | c => c
def sndC : Code → Code | .seq _ b => b | c => c
def dropDefer : Code → Code
  | .region i ops d => .region i (ops.filter fun o => match o.op with | .defer _ => false | _ => true) d
  | c => c
noncomputable def c19 : Code := (Go.Proofs.Tryz.f19.body).getD .skip
noncomputable def r0 : Code := fstC c19
noncomputable def r1 : Code := fstC (sndC c19)
noncomputable def r2 : Code := fstC (sndC (sndC c19))
noncomputable def r4 : Code := fstC (sndC (sndC (sndC c19)))
noncomputable def r5 : Code := sndC (sndC (sndC (sndC c19)))
theorem c19_eq : Go.Proofs.Tryz.f19.body = some (.seq r0 (.seq r1 (.seq r2 (.seq r4 r5)))) := by kernel_rfl
def q0 : Oper := { dst := some 19, op := .makeFunc (.func 27) #[] #[.tmp 2, .tmp 3, .tmp 4], type := 1, pos := "parse.go:173", after := #[], guard := none }
def q1 : Oper := { dst := none, op := .defer { callee := .value (.tmp 19), args := #[], argTypes := #[] }, type := 0, pos := "parse.go:173", after := #[{ on := 0, ground := .data }], guard := none }
theorem r4_eq : r4 = .region 4 #[q0, q1] false := by kernel_rfl

/- What is deferred. -/
def dQ : List Deferred → Prop := fun ds => ∃ u0 u1 u2 : Value, ds = [{ target := .fn (.func 27) #[u0, u1, u2], args := #[] }]
def nn : AS → Option Out := fun _ => none
noncomputable def res19 : AS → Option Out := results Pr E1 19 Go.Proofs.Tryz.f19
def x0 : AS := ⟨.pv (.str shapes) :: List.replicate 33 .undef, ⟨[], [], [], 0, 0⟩⟩
def out19 : Out := (.pv (.tup [shapesP, .int .i64 0, .int .i64 0]), [])
theorem r_read : execI Pr E1 noJ no 19 10 r0 ⟨fun x => execI Pr E1 noJ no 19 10 r1 ⟨fun x => execI Pr E1 noJ no 19 10 r2 ⟨fun x => bif Nat.ble 20 x.t.length then execI Pr E1 noJ no 19 10 r5 ⟨res19, [], res19⟩ (x.put (some 19) .any) else none, [], nn⟩ x, [], nn⟩ x, [], nn⟩ x0 = some out19 := by kernel_rfl

section
variable {F : Fr} {w0 : World} {M0 : Mem}
theorem seq_step {q : List Deferred → Prop} {c1 c2 : Code} {K : AS → Option Out} {x : AS} {r : Out} {G : Gh} {a : Act} {w : World} {Q : Exit → Act → World → Prop} (h : execI Pr E1 noJ no 19 10 c1 ⟨K, [], nn⟩ x = some r) (hR : RQ q F w0 M0 G x a w)
    (hq : (∀ ds, q ds → ds = []) ∧ q [] ∨ noDraw c1 = true) (next : ∀ y G a w, K y = some r → RQ q F w0 M0 G y a w → c2.wp Pr Q a w) : (Code.seq c1 c2).wp Pr Q a w :=
  wp_seq (execI_sound tok fok C1_ok noJ_ok (draw_sound tok fok mixed C1_ok) c1 hq h hR ⟨fun y G a w e p _ => next y G a w e p, fun i y G a w e => (by cases e), fun y G a w e => (by cases e)⟩)
end
noncomputable def c27 : Code := sndC ((Go.Proofs.Tryz.f27.body).getD .skip)
noncomputable def ops27 : Array Oper := match fstC ((Go.Proofs.Tryz.f27.body).getD .skip) with | .region _ ops _ => ops | _ => #[]
def p0 : Oper := { dst := some 5, op := .call { callee := .builtin .recover, args := #[], argTypes := #[] }, type := 20, pos := "parse.go:174", after := #[], guard := none }
theorem f27_eq : Go.Proofs.Tryz.f27.body = some (.seq (.region 0 ops27 false) c27) := by kernel_rfl
theorem ops27_0 : ops27[0]? = some p0 := by kernel_rfl
theorem ops27_n : ops27.size = 1 + 1 := by kernel_rfl
def x27 (s : St) : AS := ⟨[.any, .any, .any, .undef, .undef, .pv .nilI] ++ List.replicate 9 .undef, s⟩
def y27 (s : St) : AS := ⟨[.any, .any, .any, .pv .nilI, .undef, .pv .nilI, .pv .nilI, .pv (.bool false)] ++ List.replicate 7 .undef, s⟩
theorem r27 (s : St) : effsI Pr E1 noJ no 27 ops27 (ops27.toList.drop 1) (x27 s) (fun x => execI Pr E1 noJ no 27 10 c27 ⟨some, [], fun _ => none⟩ x) = some (y27 s) := by kernel_rfl
theorem draw5 : noDraw r5 = true := by kernel_rfl
theorem dQ_put (a : Act) (d : Option Tmp) (v : Value) : dQ (a.put d v).defers = dQ a.defers := by cases d <;> rfl

theorem list1 (ops : Array Oper) (n : Nat) (h : ops.size = n + 1) (Q : Exit → Act → World → Prop) (P : Program) : wpOps P ops Q (List.range' 1 n) = wpList P ops Q (ops.toList.drop 1) := by
  have := wpOps_eq_wpList (P := P) (ops := ops) (Q := Q) (ops.toList.drop 1) 1 (fun j => by rw [List.getElem?_drop]; simp)
  rw [← this]
  simp [h]
theorem y27_s (s : St) : (y27 s).s = s := rfl
theorem exitK_nil {ρ : Type} (i : Nat) (y : AS) : exitK ([] : List (Nat × (AS → Option ρ))) i y = none := rfl
/-- What is deferred does nothing, as nobody panics. -/
theorem d27 {F : Fr} {w0 : World} {M0 : Mem} {G : Gh} {w : World} {s : St} (hS : SRel F w0 M0 G s w) (u0 u1 u2 : Value) : CallsD Pr 27 #[u0, u1, u2] .returning w fun e u' w' => u' = .returning ∧ ∃ v, e = .returned v ∧ ∃ G', SRel F w0 M0 G' s w' ∧ Pres G s G' s := by
  refine (callsD_recover (R := fun e w' => ∃ v, e = .returned v ∧ ∃ G', SRel F w0 M0 G' s w' ∧ Pres G s G' s) Go.Proofs.Tryz.func27 f27_eq ops27_n ops27_0 rfl (fun ev => rfl) ?_).mono fun e u' w' h => h
  rw [list1 _ _ ops27_n]
  have hR : RQ nilQ F w0 M0 G (x27 s) (({ tmps := #[u0, u1, u2] ++ Array.replicate (Go.Proofs.Tryz.f27.ntmps - (#[u0, u1, u2] : Array Value).size) undef, defers := [] } : Act).put p0.dst (recovers .returning).1) w := by
    have hL : LRel G s [.any, .any, .any] (#[u0, u1, u2] : Array Value).toList := ⟨rfl, fun i b v e1 e2 => by
      match i with
      | 0 => cases e1; trivial
      | 1 => cases e1; trivial
      | 2 => cases e1; trivial
      | i + 3 => cases e1⟩
    refine ⟨hS, ?_, rfl⟩
    exact (slots_rel hL 15).set 5 (show ARel G s (.pv .nilI) .nilIface from PRep.nilI)
  refine effsI_sound tok fok C1_ok noJ_ok (r27 s) hR fun y G' a w' hy hR' hp => ?_
  refine execI_sound tok fok C1_ok noJ_ok (draw_sound tok fok mixed C1_ok) c27 (.inl ⟨fun _ h => h, rfl⟩) hy hR' ⟨fun z G2 a w' hz hR2 hp2 => ?_, fun i z G2 a w' hz => (by rw [exitK_nil] at hz; cases hz), fun z G2 a w' hz => (by cases hz)⟩
  obtain rfl := Option.some.inj hz
  refine ⟨hR2.D, .tuple #[], results_none rfl _ _ _, _, rfl, G2, ?_, ?_⟩
  · have := hR2.S; rw [y27_s] at this; exact this
  · have := hp.trans hp2; rw [y27_s] at this; exact this

theorem leaves19 {F : Fr} {w0 : World} {M0 : Mem} {G : Gh} {y : AS} {a : Act} {w : World} {R : Ending → World → Prop} (hR : RQ dQ F w0 M0 G y a w) (hy : res19 y = some out19)
    (hd : ∀ v w', (∃ v' G'' s', Ending.returned v = .returned v' ∧ SRel F w0 M0 G'' s' w' ∧ OutRel G'' s' out19 v' ∧ refs s' = some out19.2) → R (.returned v) w') : Leaves Pr Go.Proofs.Tryz.f19 a.tmps R a.defers .returning w := by
  obtain ⟨u0, u1, u2, hq⟩ := hR.D
  rw [hq]
  have hbody : HasBody Pr 27 := ⟨Go.Proofs.Tryz.f27, Go.Proofs.Tryz.func27, rfl⟩
  refine leaves_cons (f := 27) (args := #[u0, u1, u2]) (by simp) ?_ ?_
  · simp [invoke, run_callFunc fok hbody]
  · refine (d27 hR.S u0 u1 u2).mono ?_
    rintro e u' w' ⟨rfl, v, rfl, G', hS', hp⟩
    show Leaves Pr Go.Proofs.Tryz.f19 a.tmps R [] (settle .returning) w'
    have hR' : Go.AL.R F w0 M0 G' y { a with defers := [] } w' := ⟨hS', hR.T.pres hp, rfl⟩
    obtain ⟨v, k1, G'', s', k2, k3, k4⟩ := results_rel tok hR' hy
    exact ⟨v, k1, hd v w' ⟨v, G'', s', rfl, k2, k3, k4⟩⟩

theorem read_ok : ∀ args out, readP args = some out → args.all plainArg = true → CSpec Pr 19 args out := by
  intro args out h hpl
  unfold readP at h
  split at h
  · rename_i s
    replace h := bif_some h; obtain ⟨h1, h⟩ := h
    obtain rfl : s = shapes := by simpa using h1
    obtain rfl := Option.some.inj h
    refine ⟨⟨Go.Proofs.Tryz.f19, Go.Proofs.Tryz.func19, rfl⟩, fun F M G w vs hS hFr => ?_⟩
    have hent : enter [.pv (.str shapes)] = ([.pv (.str shapes)], ⟨[], [], [], 0, 0⟩) := rfl
    rw [hent] at hS hFr
    simp only at hS hFr
    refine calls_of_wp_defers Go.Proofs.Tryz.func19 c19_eq ?_
    have hL : LRel G ⟨[], [], [], 0, 0⟩ [.pv (.str shapes)] vs.toList := ⟨by simp [hFr.1], fun i b v e1 e2 => hFr.2 i b v e1 (by simpa using e2)⟩
    have hR0 : RQ nilQ F w M G x0 { tmps := vs ++ Array.replicate (Go.Proofs.Tryz.f19.ntmps - vs.size) undef, defers := [] } w := ⟨hS, slots_rel hL 34, rfl⟩
    refine seq_step r_read hR0 (.inl ⟨fun _ h => h, rfl⟩) fun y G1 a w1 hy hR1 => ?_
    refine seq_step hy hR1 (.inl ⟨fun _ h => h, rfl⟩) fun y G1 a w1 hy hR1 => ?_
    refine seq_step hy hR1 (.inl ⟨fun _ h => h, rfl⟩) fun y G1 a w1 hy hR1 => ?_
    replace hy := bif_some hy; obtain ⟨hlen, hy⟩ := hy
    have hlen := Nat.le_of_ble_eq_true hlen
    rw [r4_eq]
    refine wp_seq (wp_region_list ?_)
    refine wpList_plain rfl fun K hK => ?_
    have e0 : ∀ b : Act, (execOp b.eval q0).run Pr w1 = .ok (.value (.func (.func 27) #[] #[b.eval (.tmp 2), b.eval (.tmp 3), b.eval (.tmp 4)])) w1 := fun b => by simp [execOp, q0, Instr.makeFunc]
    simp only [Oper.wp]
    rw [e0]
    refine hK _ _ (wpList_plain rfl fun K' hK' => ?_)
    simp only [Oper.wp]
    have e1 : (execOp (a.put q0.dst (.func (.func 27) #[] #[a.eval (.tmp 2), a.eval (.tmp 3), a.eval (.tmp 4)])).eval q1).run Pr w1 = .ok (.defer { target := .fn (.func 27) #[a.eval (.tmp 2), a.eval (.tmp 3), a.eval (.tmp 4)], args := #[] }) w1 := by
      have hsz : 19 < a.tmps.size := by rw [hR1.T.1]; omega
      simp [execOp, q1, q0, resolve, Act.put, Act.eval, Deferred.ofValue, hsz]
    rw [e1]
    refine hK' _ _ ?_
    have hR2 : RQ dQ F w M G1 (y.put (some 19) .any) (({ a.put q0.dst (.func (.func 27) #[] #[a.eval (.tmp 2), a.eval (.tmp 3), a.eval (.tmp 4)]) with defers := [{ target := .fn (.func 27) #[a.eval (.tmp 2), a.eval (.tmp 3), a.eval (.tmp 4)], args := #[] }] } : Act).put q1.dst undef) w1 := by
      have := RQ.putP hR1 hR1.S (Pres.refl _ _) (some 19) (b := .any) (v := .func (.func 27) #[] #[a.eval (.tmp 2), a.eval (.tmp 3), a.eval (.tmp 4)]) trivial
      exact ⟨this.S, this.T, ⟨_, _, _, rfl⟩⟩
    have hdf : (a.put q0.dst (.func (.func 27) #[] #[a.eval (.tmp 2), a.eval (.tmp 3), a.eval (.tmp 4)])).defers = [] := hR1.D
    rw [hdf]
    show (r5).wp Pr _ _ _
    refine execI_sound tok fok C1_ok noJ_ok (draw_sound tok fok mixed C1_ok) r5 (.inr draw5) hy hR2 ⟨fun z G2 a w' hz hR3 hp => ?_, fun i z G2 a w' hz => (by rw [exitK_nil] at hz; cases hz), fun z G2 a w' hz hR3 hp => ?_⟩
    · exact leaves19 hR3 hz fun v w' h => h
    · exact leaves19 hR3 hz fun v w' h => h
  · cases h
theorem snd (n : Nat) : CallOk Pr (acall Pr T n) := sound tok fok mixed (prims (fun x hx => by
  simp only [extras, List.mem_cons, List.not_mem_nil, or_false] at hx
  rcases hx with rfl | rfl
  · exact read_ok
  · exact atoi_ok)) n
end Go.AL.S11
