/- The check of a whole program: right if, and only if, its parts are. -/
import Derived.Test.YtlmodlihiglnhaaS6Right2
set_option linter.unusedVariables false
set_option linter.unusedSimpArgs false
set_option maxRecDepth 100000
namespace Go.AL.S6
open Go Go.AL

theorem lA {ac : List Ac} (hl : ac.length ≤ maxLen) (ho : ∀ a, a ∈ ac → OkA a) : isI (L26_1111111014 (ac.map Ac.enc) 0) ∧ (z (L26_1111111014 (ac.map Ac.enc) 0) ↔ ∀ a, a ∈ ac → z (gI (V 69 [.pv a.enc]) Z)) := by
  have := loop_z (xs := ac) (L := fun k => L26_1111111014 (ac.map Ac.enc) k) (fin := Z) (fun a => gI (V 69 [.pv a.enc])) (fun a ha => gI_step (t69 (ho a ha))) (fun k x rest h => by
      have A := atK_map (f := Ac.enc) h hl
      show L26_1111111014 _ _ = gI (V 69 [.pv x.enc]) (L26_1111111014 _ _)
      rw [e26_1111111014]
      simp only [A.lt, A.ge, A.get, A.next, cond_true, Option.bind_some, ac_fits, ac_eta]
      rfl) (fun k h => by
      show L26_1111111014 _ _ = _
      rw [e26_1111111014, endK_map h]
      rfl) ac 0 rfl
  refine ⟨this.1 isI_Z, ?_⟩
  have h2 := this.2
  simp only [show z Z from rfl, and_true] at h2
  exact h2
theorem lF {p : Pg} (hp : OkPg p) : isI (L26_111111014 (p.funs.map Fn.enc) 0 p.name p.ver (p.uses.map Us.enc) (p.datas.map Da.enc) (p.traits.map eT) (p.impls.map Im.enc) (p.acts.map Ac.enc)) ∧
    (z (L26_111111014 (p.funs.map Fn.enc) 0 p.name p.ver (p.uses.map Us.enc) (p.datas.map Da.enc) (p.traits.map eT) (p.impls.map Im.enc) (p.acts.map Ac.enc)) ↔ (∀ f, f ∈ p.funs → z (gI (V 68 [.pv f.enc, .pv (.bool true)]) Z)) ∧ ∀ a, a ∈ p.acts → z (gI (V 69 [.pv a.enc]) Z)) := by
  have hA := lA hp.acts hp.oA
  have := loop_z (xs := p.funs) (L := fun k => L26_111111014 (p.funs.map Fn.enc) k p.name p.ver (p.uses.map Us.enc) (p.datas.map Da.enc) (p.traits.map eT) (p.impls.map Im.enc) (p.acts.map Ac.enc)) (fin := L26_1111111014 (p.acts.map Ac.enc) 0) (fun f => gI (V 68 [.pv f.enc, .pv (.bool true)])) (fun f hf => gI_step (t68 (hp.oF f hf) true)) (fun k x rest h => by
      have A := atK_map (f := Fn.enc) h hp.funs
      show L26_111111014 _ _ _ _ _ _ _ _ _ = gI (V 68 [.pv x.enc, .pv (.bool true)]) (L26_111111014 _ _ _ _ _ _ _ _ _)
      rw [e26_111111014]
      simp only [A.lt, A.ge, A.get, A.next, cond_true, Option.bind_some, fn_fits, fn_eta]
      rfl) (fun k h => by
      show L26_111111014 _ _ _ _ _ _ _ _ _ = _
      rw [e26_111111014, endK_map h]
      rfl) p.funs 0 rfl
  exact ⟨this.1 hA.1, by rw [← hA.2]; exact this.2⟩
theorem lD {p : Pg} (hp : OkPg p) : isI (L26_1111014 (p.datas.map Da.enc) 0 p.name p.ver (p.uses.map Us.enc) (p.traits.map eT) (p.impls.map Im.enc) (p.funs.map Fn.enc) (p.acts.map Ac.enc)) ∧
    (z (L26_1111014 (p.datas.map Da.enc) 0 p.name p.ver (p.uses.map Us.enc) (p.traits.map eT) (p.impls.map Im.enc) (p.funs.map Fn.enc) (p.acts.map Ac.enc)) ↔ (∀ d, d ∈ p.datas → z (gI (V 66 [.pv d.enc]) Z)) ∧ ((∀ t, t ∈ p.traits → z (gT t Z)) ∧ ∀ m, m ∈ p.impls → z (gM m Z)) ∧ (∀ f, f ∈ p.funs → z (gI (V 68 [.pv f.enc, .pv (.bool true)]) Z)) ∧ ∀ a, a ∈ p.acts → z (gI (V 69 [.pv a.enc]) Z)) := by
  have hF := lF hp
  have hT := lT hp
  have hs := gI_step hT.1
  have zI : z (gI (V 67 [.pv p.enc]) Z) ↔ z (V 67 [.pv p.enc]) := by
    obtain ⟨n, hn⟩ := hT.1
    rw [hn]
    unfold gI
    simp only [Option.bind_some, retPV_pv, fits_i64, toInt_int, cond_true]
    by_cases h0 : n = 0
    · subst h0; exact ⟨fun _ => rfl, fun _ => rfl⟩
    · rw [show (n != 0) = true from by simpa using h0]; exact Iff.rfl
  have := loop_z (xs := p.datas) (L := fun k => L26_1111014 (p.datas.map Da.enc) k p.name p.ver (p.uses.map Us.enc) (p.traits.map eT) (p.impls.map Im.enc) (p.funs.map Fn.enc) (p.acts.map Ac.enc)) (fin := gI (V 67 [.pv p.enc]) (L26_111111014 (p.funs.map Fn.enc) 0 p.name p.ver (p.uses.map Us.enc) (p.datas.map Da.enc) (p.traits.map eT) (p.impls.map Im.enc) (p.acts.map Ac.enc))) (fun d => gI (V 66 [.pv d.enc])) (fun d hd => gI_step (t66 (hp.oD d hd))) (fun k x rest h => by
      have A := atK_map (f := Da.enc) h hp.datas
      show L26_1111014 _ _ _ _ _ _ _ _ _ = gI (V 66 [.pv x.enc]) (L26_1111014 _ _ _ _ _ _ _ _ _)
      rw [e26_1111014]
      simp only [A.lt, A.ge, A.get, A.next, cond_true, Option.bind_some, da_fits, da_eta]
      rfl) (fun k h => by
      show L26_1111014 _ _ _ _ _ _ _ _ _ = _
      rw [e26_1111014, endK_map h]
      rfl) p.datas 0 rfl
  refine ⟨this.1 (hs.isI hF.1), ?_⟩
  have h2 := this.2
  rw [hs.z, zI, hT.2, hF.2] at h2
  exact h2
noncomputable def gH (p : Pg) (o : Option Out) : Option Out := ((V 65 [.pv (.str p.name)]).bind retPV).bind fun r => (bif (Sh.bool).fits r then bif (!r.toBool) then some (.pv (.int .i64 3), []) else bif decide (p.ver < (0 : Int)) then some (.pv (.int .i64 3), []) else bif decide (p.ver > (1000000 : Int)) then some (.pv (.int .i64 3), []) else o else none)
theorem gH_step (p : Pg) : isStep (gH p) := by
  refine isStep.ofB (f := fun r o => (bif (Sh.bool).fits r then bif (!r.toBool) then some (.pv (.int .i64 3), []) else bif decide (p.ver < (0 : Int)) then some (.pv (.int .i64 3), []) else bif decide (p.ver > (1000000 : Int)) then some (.pv (.int .i64 3), []) else o else none)) (t65 p.name) fun b => ?_
  simp only [fits_bool, toBool_bool, cond_true]
  exact .bif (.ret (by decide)) (.bif (.ret (by decide)) (.bif (.ret (by decide)) .id))
noncomputable def gN (n : Nat) (o : Option Out) : Option Out := bif decide ((n : Int) > (40 : Int)) then some (.pv (.int .i64 2), []) else o
theorem gN_step (n : Nat) : isStep (gN n) := .bif (.ret (by decide)) .id
def sizes (p : Pg) : List Nat := [(p.uses.map Us.enc).length, (p.datas.map Da.enc).length, (p.traits.map eT).length, (p.impls.map Im.enc).length, (p.funs.map Fn.enc).length, (p.acts.map Ac.enc).length]
def parts (p : Pg) : Prop := (∀ u, u ∈ p.uses → z (gU u Z)) ∧ (∀ d, d ∈ p.datas → z (gI (V 66 [.pv d.enc]) Z)) ∧ ((∀ t, t ∈ p.traits → z (gT t Z)) ∧ ∀ m, m ∈ p.impls → z (gM m Z)) ∧ (∀ f, f ∈ p.funs → z (gI (V 68 [.pv f.enc, .pv (.bool true)]) Z)) ∧ ∀ a, a ∈ p.acts → z (gI (V 69 [.pv a.enc]) Z)
theorem v26 {p : Pg} (hp : OkPg p) : isI (V 26 [.pv p.enc]) ∧ (z (V 26 [.pv p.enc]) ↔ (∀ n, n ∈ sizes p → z (gN n Z)) ∧ z (gH p Z) ∧ parts p) := by
  have hD := lD hp
  have hU := loop_z (xs := p.uses) (L := fun k => L26_111014 (p.uses.map Us.enc) k p.name p.ver (p.datas.map Da.enc) (p.traits.map eT) (p.impls.map Im.enc) (p.funs.map Fn.enc) (p.acts.map Ac.enc)) (fin := L26_1111014 (p.datas.map Da.enc) 0 p.name p.ver (p.uses.map Us.enc) (p.traits.map eT) (p.impls.map Im.enc) (p.funs.map Fn.enc) (p.acts.map Ac.enc)) gU (fun u _ => gU_step u) (fun k x rest h => by
      have A := atK_map (f := Us.enc) h hp.uses
      show L26_111014 _ _ _ _ _ _ _ _ _ = gU x (L26_111014 _ _ _ _ _ _ _ _ _)
      rw [e26_111014]
      simp only [A.lt, A.ge, A.get, A.next, cond_true, Option.bind_some, us_fits, us_0, us_1, us_2]
      rfl) (fun k h => by
      show L26_111014 _ _ _ _ _ _ _ _ _ = _
      rw [e26_111014, endK_map h]
      rfl) p.uses 0 rfl
  have hS := loop_z (xs := sizes p) (L := fun k => L26_1014 (p.uses.map Us.enc) (p.datas.map Da.enc) (p.traits.map eT) (p.impls.map Im.enc) (p.funs.map Fn.enc) (p.acts.map Ac.enc) k p.name p.ver) (fin := gH p (L26_111014 (p.uses.map Us.enc) 0 p.name p.ver (p.datas.map Da.enc) (p.traits.map eT) (p.impls.map Im.enc) (p.funs.map Fn.enc) (p.acts.map Ac.enc))) gN (fun n _ => gN_step n) (fun k x rest h => by
      have A := atK_map (f := fun n : Nat => PV.int .i64 n) h (show (sizes p).length ≤ maxLen by simp [sizes, maxLen])
      show L26_1014 _ _ _ _ _ _ _ _ _ = gN x (L26_1014 _ _ _ _ _ _ _ _ _)
      have h1 : decide ((k : Int) < 6) = true := A.lt
      have h2 : ([.int .i64 ((p.uses.map Us.enc).length : Int), .int .i64 ((p.datas.map Da.enc).length : Int), .int .i64 ((p.traits.map eT).length : Int), .int .i64 ((p.impls.map Im.enc).length : Int), .int .i64 ((p.funs.map Fn.enc).length : Int), .int .i64 ((p.acts.map Ac.enc).length : Int)] : List PV)[(k : Int).toNat]? = some (.int .i64 (x : Int)) := A.get
      rw [e26_1014, h1, h2]
      simp only [A.ge, A.next, cond_true, Option.bind_some, fits_i64, toInt_int]
      rfl) (fun k h => by
      show L26_1014 _ _ _ _ _ _ _ _ _ = _
      have h1 : decide ((k : Int) < 6) = false := endK_map (f := fun n : Nat => PV.int .i64 n) h
      rw [e26_1014, h1]
      rfl) (sizes p) 0 rfl
  rw [Pg.enc, e26]
  have hH := gH_step p
  refine ⟨hS.1 (hH.isI (hU.1 hD.1)), ?_⟩
  have h2 := hS.2
  rw [hH.z] at h2
  exact h2.trans (and_congr Iff.rfl (and_congr Iff.rfl (hU.2.trans (and_congr Iff.rfl hD.2))))
end Go.AL.S6
