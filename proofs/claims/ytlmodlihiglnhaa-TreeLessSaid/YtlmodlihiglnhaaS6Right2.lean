/- The check of a whole program: its loops. -/
import Derived.Test.YtlmodlihiglnhaaS6Right
set_option linter.unusedVariables false
set_option linter.unusedSimpArgs false
set_option maxRecDepth 100000
namespace Go.AL.S6
open Go Go.AL

structure Pg where
  name : Str
  ver : Int
  uses : List Us
  datas : List Da
  traits : List Tr
  impls : List Im
  funs : List Fn
  acts : List Ac
def Pg.enc (p : Pg) : PV := .agg [.str p.name, .int .i64 p.ver, .lst (p.uses.map Us.enc), .lst (p.datas.map Da.enc), .lst (p.traits.map eT), .lst (p.impls.map Im.enc), .lst (p.funs.map Fn.enc), .lst (p.acts.map Ac.enc)]
structure OkPg (p : Pg) : Prop where
  uses : p.uses.length ≤ maxLen
  datas : p.datas.length ≤ maxLen
  traits : p.traits.length ≤ maxLen
  impls : p.impls.length ≤ maxLen
  funs : p.funs.length ≤ maxLen
  acts : p.acts.length ≤ maxLen
  oD : ∀ d, d ∈ p.datas → OkD d
  oT : ∀ t, t ∈ p.traits → OkFs t.2
  oM : ∀ m, m ∈ p.impls → OkFs m.funs
  oF : ∀ f, f ∈ p.funs → OkF f
  oA : ∀ a, a ∈ p.acts → OkA a
theorem da_fits (d : Da) : (Sh.agg [Sh.str, Sh.lst, Sh.lst]).fits d.enc = true := nrfl rfl
theorem da_eta (d : Da) : PV.agg [.str (d.enc.c 0).toStr, .lst (d.enc.c 1).toLst, .lst (d.enc.c 2).toLst] = d.enc := nrfl rfl
theorem ac_fits (a : Ac) : (Sh.agg [Sh.str, Sh.lst, Sh.lst, Sh.int .i64, Sh.str, Sh.lst, Sh.int .i64, Sh.int .i64, Sh.str, Sh.lst, Sh.lst, Sh.lst, Sh.lst, Sh.int .i64]).fits a.enc = true := nrfl rfl
theorem ac_eta (a : Ac) : PV.agg [.str (a.enc.c 0).toStr, .lst (a.enc.c 1).toLst, .lst (a.enc.c 2).toLst, .int .i64 (a.enc.c 3).toInt, .str (a.enc.c 4).toStr, .lst (a.enc.c 5).toLst, .int .i64 (a.enc.c 6).toInt, .int .i64 (a.enc.c 7).toInt, .str (a.enc.c 8).toStr, .lst (a.enc.c 9).toLst, .lst (a.enc.c 10).toLst, .lst (a.enc.c 11).toLst, .lst (a.enc.c 12).toLst, .int .i64 (a.enc.c 13).toInt] = a.enc := nrfl rfl

/-! #### Traits -/
theorem lM {ms : List Im} (hl : ms.length ≤ maxLen) (ho : ∀ m, m ∈ ms → OkFs m.funs) : isI (L67_11014 (ms.map Im.enc) 0) ∧ (z (L67_11014 (ms.map Im.enc) 0) ↔ ∀ m, m ∈ ms → z (gM m Z)) := by
  have := loop_z (xs := ms) (L := fun k => L67_11014 (ms.map Im.enc) k) (fin := Z) gM (fun m hm => gM_step (ho m hm)) (fun k x rest h => by
      have A := atK_map (f := Im.enc) h hl
      show L67_11014 (ms.map Im.enc) k = gM x (L67_11014 (ms.map Im.enc) ((k + 1 : Nat) : Int))
      have hs : ∀ b, L67_1101451104116 b (ms.map Im.enc) k x.trait x.type (x.funs.map Fn.enc) = (((V 105 [.pv (.str x.trait)]).bind retPV).bind fun r => (bif (Sh.bool).fits r then bif (!r.toBool) then some (.pv (.int .i64 3), []) else bif (!b) then
          ((V 105 [.pv (.str x.type)]).bind retPV).bind fun r1 => (bif (Sh.bool).fits r1 then bif (!r1.toBool) then some (.pv (.int .i64 3), []) else gI (V 108 [.pv (.lst (x.funs.map Fn.enc)), .pv (.bool true)]) (L67_11014 (ms.map Im.enc) ((k + 1 : Nat) : Int)) else none)
        else gI (V 108 [.pv (.lst (x.funs.map Fn.enc)), .pv (.bool true)]) (L67_11014 (ms.map Im.enc) ((k + 1 : Nat) : Int)) else none)) := fun b => by
        rw [e67_1101451104116, e67_11014511041116, A.next]
        rfl
      rw [e67_11014]
      simp only [A.lt, A.ge, A.get, cond_true, Option.bind_some, im_fits, im_0, im_1, im_2]
      rw [hs, hs]
      unfold gM plainT
      cases (x.type == [105, 110, 116]) <;> cases (x.type == [98, 111, 111, 108]) <;> cases (x.type == [116, 101, 120, 116]) <;> rfl) (fun k h => by
      show L67_11014 (ms.map Im.enc) k = Z
      rw [e67_11014, endK_map h]
      rfl) ms 0 rfl
  refine ⟨this.1 isI_Z, ?_⟩
  have h2 := this.2
  simp only [show z Z from rfl, and_true] at h2
  exact h2
theorem lT {p : Pg} (hp : OkPg p) : isI (V 67 [.pv p.enc]) ∧ (z (V 67 [.pv p.enc]) ↔ (∀ t, t ∈ p.traits → z (gT t Z)) ∧ ∀ m, m ∈ p.impls → z (gM m Z)) := by
  have hM := lM hp.impls hp.oM
  have := loop_z (xs := p.traits) (L := fun k => L67_1014 (p.traits.map eT) k p.name p.ver (p.uses.map Us.enc) (p.datas.map Da.enc) (p.impls.map Im.enc) (p.funs.map Fn.enc) (p.acts.map Ac.enc)) (fin := L67_11014 (p.impls.map Im.enc) 0) gT (fun t ht => gT_step (hp.oT t ht)) (fun k x rest h => by
      have A := atK_map (f := eT) h hp.traits
      show L67_1014 _ _ _ _ _ _ _ _ _ = gT x (L67_1014 _ _ _ _ _ _ _ _ _)
      rw [e67_1014]
      simp only [A.lt, A.ge, A.get, A.next, cond_true, Option.bind_some, eT_fits, eT_0, eT_1]
      rfl) (fun k h => by
      show L67_1014 _ _ _ _ _ _ _ _ _ = _
      rw [e67_1014, endK_map h]
      rfl) p.traits 0 rfl
  rw [Pg.enc, e67]
  exact ⟨this.1 hM.1, by rw [← hM.2]; exact this.2⟩
end Go.AL.S6
