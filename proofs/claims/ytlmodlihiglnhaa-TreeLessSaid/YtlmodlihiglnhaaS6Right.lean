/- The check of a whole program: it comes to an end, and it is right if, and only if, all its parts are. -/
import Derived.Test.YtlmodlihiglnhaaS6Dec
set_option linter.unusedVariables false
set_option linter.unusedSimpArgs false
set_option maxRecDepth 100000
namespace Go.AL.S6
open Go Go.AL

def Z : Option Out := some (.pv (.int .i64 0), [])
def z (o : Option Out) : Prop := o = Z
theorem isI_Z : isI Z := ⟨0, rfl⟩
/-- A step of a check: it stops with a mark, or goes on. -/
def isStep (g : Option Out → Option Out) : Prop := ∃ n : Int, ∀ o, g o = bif n != 0 then some (.pv (.int .i64 n), []) else o
theorem isStep.id : isStep fun o => o := ⟨0, fun o => rfl⟩
theorem isStep.ret {n : Int} (h : n ≠ 0) : isStep fun _ => some (.pv (.int .i64 n), []) := ⟨n, fun o => by rw [show (n != 0) = true from by simpa using h]; rfl⟩
theorem isStep.num (n : Int) : isStep fun o => bif n != 0 then some (.pv (.int .i64 n), []) else o := ⟨n, fun o => rfl⟩
theorem isStep.bif {c : Bool} {g k : Option Out → Option Out} (h : isStep g) (h2 : isStep k) : isStep fun o => bif c then g o else k o := by
  cases c <;> assumption
theorem isStep.ofB {v : Option Out} {f : PV → Option Out → Option Out} (h : isB v) (k : ∀ b, isStep (f (.bool b))) : isStep fun o => (v.bind retPV).bind fun r => f r o := by
  obtain ⟨b, rfl⟩ := h; exact k b
theorem isStep.ofI {v : Option Out} {f : PV → Option Out → Option Out} (h : isI v) (k : ∀ n, isStep (f (.int .i64 n))) : isStep fun o => (v.bind retPV).bind fun r => f r o := by
  obtain ⟨b, rfl⟩ := h; exact k b
theorem isStep.isI {g : Option Out → Option Out} (h : isStep g) {o : Option Out} (ho : isI o) : isI (g o) := by
  obtain ⟨n, hn⟩ := h
  rw [hn]
  exact .bif (.mk _) ho
theorem isStep.z {g : Option Out → Option Out} (h : isStep g) (o : Option Out) : z (g o) ↔ z (g Z) ∧ z o := by
  obtain ⟨n, hn⟩ := h
  rw [hn, hn]
  by_cases h0 : n = 0
  · subst h0
    exact ⟨fun k => ⟨rfl, k⟩, fun k => k.2⟩
  · rw [show (n != 0) = true from by simpa using h0]
    simp only [cond_true]
    have : ¬ S6.z (some (.pv (.int .i64 n), [])) := fun e => h0 (by simpa [S6.z, Z] using e)
    exact ⟨fun k => absurd k this, fun k => absurd k.1 this⟩
theorem loop_z {α : Type} {xs : List α} {L : Nat → Option Out} {fin : Option Out} (g : α → Option Out → Option Out) (hg : ∀ x, x ∈ xs → isStep (g x)) (hstep : ∀ k x rest, xs.drop k = x :: rest → L k = g x (L (k + 1))) (hend : ∀ k, xs.drop k = [] → L k = fin) :
    ∀ (rest : List α) (k : Nat), xs.drop k = rest → (isI fin → isI (L k)) ∧ (z (L k) ↔ (∀ x, x ∈ rest → z (g x Z)) ∧ z fin)
  | [], k, h => by rw [hend k h]; exact ⟨id, by simp⟩
  | x :: rest, k, h => by
    have h' : xs.drop (k + 1) = rest := by
      have := congrArg List.tail h
      simpa using this
    have ih := loop_z g hg hstep hend rest (k + 1) h'
    have hx := hg x (mem_drop h)
    rw [hstep k x rest h]
    refine ⟨fun hf => hx.isI (ih.1 hf), ?_⟩
    rw [hx.z, ih.2]
    simp only [List.mem_cons, forall_eq_or_imp, and_assoc]

/-! #### Steps -/
structure Us where
  name : Str
  lo : Int
  hi : Int
def Us.enc (u : Us) : PV := .agg [.str u.name, .int .i64 u.lo, .int .i64 u.hi]
theorem us_fits (u : Us) : (Sh.agg [Sh.str, Sh.int .i64, Sh.int .i64]).fits u.enc = true := nrfl rfl
theorem us_0 (u : Us) : (u.enc.c 0).toStr = u.name := nrfl rfl
theorem us_1 (u : Us) : (u.enc.c 1).toInt = u.lo := nrfl rfl
theorem us_2 (u : Us) : (u.enc.c 2).toInt = u.hi := nrfl rfl
noncomputable def gU (u : Us) (o : Option Out) : Option Out := ((V 65 [.pv (.str u.name)]).bind retPV).bind fun r =>
  (bif (Sh.bool).fits r then bif (!r.toBool) then some (.pv (.int .i64 3), []) else bif decide (u.lo < (0 : Int)) then some (.pv (.int .i64 3), []) else bif decide (u.lo > u.hi) then some (.pv (.int .i64 3), []) else bif decide (u.hi > (1000000 : Int)) then some (.pv (.int .i64 3), []) else o else none)
theorem gU_step (u : Us) : isStep (gU u) := by
  refine isStep.ofB (f := fun r o => (bif (Sh.bool).fits r then bif (!r.toBool) then some (.pv (.int .i64 3), []) else bif decide (u.lo < (0 : Int)) then some (.pv (.int .i64 3), []) else bif decide (u.lo > u.hi) then some (.pv (.int .i64 3), []) else bif decide (u.hi > (1000000 : Int)) then some (.pv (.int .i64 3), []) else o else none)) (t65 u.name) fun b => ?_
  simp only [fits_bool, toBool_bool, cond_true]
  exact .bif (.ret (by decide)) (.bif (.ret (by decide)) (.bif (.ret (by decide)) (.bif (.ret (by decide)) .id)))
noncomputable def gI (v : Option Out) (o : Option Out) : Option Out := (v.bind retPV).bind fun r => (bif (Sh.int .i64).fits r then bif ((r.toInt) != (0 : Int)) then some (.pv (.int .i64 r.toInt), []) else o else none)
theorem gI_step {v : Option Out} (h : isI v) : isStep (gI v) := by
  obtain ⟨n, rfl⟩ := h
  exact .num n
/-! #### Traits and their likes -/
abbrev Tr := Str × List Fn
def eT (t : Tr) : PV := .agg [.str t.1, .lst (t.2.map Fn.enc)]
theorem eT_fits (t : Tr) : (Sh.agg [Sh.str, Sh.lst]).fits (eT t) = true := nrfl rfl
theorem eT_0 (t : Tr) : ((eT t).c 0).toStr = t.1 := nrfl rfl
theorem eT_1 (t : Tr) : ((eT t).c 1).toLst = t.2.map Fn.enc := nrfl rfl
def OkFs (l : List Fn) : Prop := l.length ≤ maxLen ∧ ∀ f, f ∈ l → OkF f
noncomputable def gT (t : Tr) (o : Option Out) : Option Out := ((V 105 [.pv (.str t.1)]).bind retPV).bind fun r => (bif (Sh.bool).fits r then bif (!r.toBool) then some (.pv (.int .i64 3), []) else gI (V 108 [.pv (.lst (t.2.map Fn.enc)), .pv (.bool false)]) o else none)
theorem gT_step {t : Tr} (h : OkFs t.2) : isStep (gT t) := by
  refine isStep.ofB (f := fun r o => (bif (Sh.bool).fits r then bif (!r.toBool) then some (.pv (.int .i64 3), []) else gI (V 108 [.pv (.lst (t.2.map Fn.enc)), .pv (.bool false)]) o else none)) (t105 t.1) fun b => ?_
  simp only [fits_bool, toBool_bool, cond_true]
  exact .bif (.ret (by decide)) (gI_step (t108 h.1 h.2 _))
structure Im where
  trait : Str
  type : Str
  funs : List Fn
def Im.enc (m : Im) : PV := .agg [.str m.trait, .str m.type, .lst (m.funs.map Fn.enc)]
theorem im_fits (m : Im) : (Sh.agg [Sh.str, Sh.str, Sh.lst]).fits m.enc = true := nrfl rfl
theorem im_0 (m : Im) : (m.enc.c 0).toStr = m.trait := nrfl rfl
theorem im_1 (m : Im) : (m.enc.c 1).toStr = m.type := nrfl rfl
theorem im_2 (m : Im) : (m.enc.c 2).toLst = m.funs.map Fn.enc := nrfl rfl
def plainT (s : Str) : Bool := bif s == [105, 110, 116] then true else bif s == [98, 111, 111, 108] then true else bif s == [116, 101, 120, 116] then true else s == [117, 110, 105, 116]
noncomputable def gM (m : Im) (o : Option Out) : Option Out := ((V 105 [.pv (.str m.trait)]).bind retPV).bind fun r => (bif (Sh.bool).fits r then bif (!r.toBool) then some (.pv (.int .i64 3), []) else bif (!plainT m.type) then
    ((V 105 [.pv (.str m.type)]).bind retPV).bind fun r1 => (bif (Sh.bool).fits r1 then bif (!r1.toBool) then some (.pv (.int .i64 3), []) else gI (V 108 [.pv (.lst (m.funs.map Fn.enc)), .pv (.bool true)]) o else none)
  else gI (V 108 [.pv (.lst (m.funs.map Fn.enc)), .pv (.bool true)]) o else none)
theorem gM_step {m : Im} (h : OkFs m.funs) : isStep (gM m) := by
  obtain ⟨b, hb⟩ := t105 m.trait
  obtain ⟨c, hc⟩ := t105 m.type
  have hi := gI_step (t108 h.1 h.2 true)
  have e : gM m = fun o => bif (!b) then some (.pv (.int .i64 3), []) else bif (!plainT m.type) then (bif (!c) then some (.pv (.int .i64 3), []) else gI (V 108 [.pv (.lst (m.funs.map Fn.enc)), .pv (.bool true)]) o) else gI (V 108 [.pv (.lst (m.funs.map Fn.enc)), .pv (.bool true)]) o := by
    funext o
    unfold gM
    rw [hb, hc]
    rfl
  rw [e]
  exact .bif (.ret (by decide)) (.bif (.bif (.ret (by decide)) hi) hi)
end Go.AL.S6
