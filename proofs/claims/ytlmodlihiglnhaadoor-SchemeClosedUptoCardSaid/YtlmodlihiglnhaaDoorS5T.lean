/- Tables of the abstract machine for this seat: printed by gen.py. -/
import Derived.Test.YtlmodlihiglnhaaDoorAL4
import Derived.Test.YtlmodlihiglnhaaDoorRows
set_option linter.unusedVariables false
namespace Go.AL.S5
open Go Go.AL
def clones : List (Nat × Bool × Nat × Nat) := [(76, true, 3, 48)]
def T : Tab where
  heads f b := bif Nat.blt f 36 then (bif Nat.blt f 16 then (bif Nat.blt f 15 then (bif Nat.beq f 13 then (bif Nat.beq b 0 then some ⟨[3, 4, 5, 11, 12, 13], 2, [(.slot 5, 0)], []⟩ else bif Nat.beq b 2 then some ⟨[4, 5, 8, 25, 26, 27], 3, [(.slot 5, 0), (.cell 2 0, 0)], []⟩ else none) else none) else (bif Nat.beq f 15 then (bif Nat.beq b 0 then some ⟨[1, 3, 8, 9, 10], 1, [(.slot 3, 0)], []⟩ else none) else none)) else (bif Nat.blt f 34 then (bif Nat.beq f 16 then (bif Nat.beq b 0 then some ⟨[0, 1, 12, 13], 0, [], []⟩ else none) else none) else (bif Nat.blt f 35 then (bif Nat.beq f 34 then (bif Nat.beq b 0 then some ⟨[1, 2, 4, 6, 10, 11], 2, [(.slot 6, 2)], []⟩ else none) else none) else (bif Nat.beq f 35 then (bif Nat.beq b 0 then some ⟨[1, 2, 3, 6, 39, 40, 41], 2, [], [.slot 39]⟩ else none) else none)))) else (bif Nat.blt f 63 then (bif Nat.blt f 40 then (bif Nat.beq f 36 then (bif Nat.beq b 0 then some ⟨[0, 3, 6, 60, 61, 62], 3, [], []⟩ else none) else none) else (bif Nat.beq f 40 then (bif Nat.beq b 0 then some ⟨[1, 22, 23, 24], 0, [(.slot 1, 0)], []⟩ else none) else none)) else (bif Nat.blt f 78 then (bif Nat.beq f 63 then (bif Nat.beq b 0 then some ⟨[0, 1, 7, 8], 0, [], []⟩ else none) else none) else (bif Nat.blt f 105 then (bif Nat.beq f 78 then (bif Nat.beq b 0 then some ⟨[0, 1, 7, 8], 0, [], []⟩ else none) else none) else (bif Nat.beq f 105 then (bif Nat.beq b 0 then some ⟨[1, 2, 15, 16, 17], 0, [], []⟩ else none) else none))))
  kind f d := bif Nat.blt f 36 then (bif Nat.blt f 17 then (bif Nat.blt f 14 then (bif Nat.beq f 11 then (bif Nat.beq d 13 then 3 else 0) else 0) else (bif Nat.beq f 14 then (bif Nat.beq d 5 then 3 else 0) else 0)) else (bif Nat.blt f 35 then (bif Nat.beq f 17 then (bif Nat.beq d 4 then 1 else 0) else 0) else (bif Nat.beq f 35 then (bif Nat.beq d 36 then 2 else bif Nat.beq d 37 then 3 else bif Nat.beq d 40 then 2 else bif Nat.beq d 44 then 2 else bif Nat.beq d 53 then 2 else bif Nat.beq d 55 then 3 else 0) else 0))) else (bif Nat.blt f 76 then (bif Nat.blt f 40 then (bif Nat.beq f 36 then (bif Nat.beq d 75 then 3 else 0) else 0) else (bif Nat.beq f 40 then (bif Nat.beq d 30 then 1 else 0) else 0)) else (bif Nat.blt f 128 then (bif Nat.beq f 76 then (bif Nat.beq d 5 then 2 else 0) else 0) else (bif Nat.beq f 128 then (bif Nat.beq d 18 then 2 else 0) else 0)))
  mode f j := bif Nat.blt f 128 then (bif Nat.beq f 40 then (bif Nat.beq j 1 then 2 else 0) else 0) else (bif Nat.blt f 129 then (bif Nat.beq f 128 then (bif Nat.beq j 0 then 1 else 0) else 0) else (bif Nat.beq f 129 then (bif Nat.beq j 0 then 2 else 0) else 0))
  keepNil f := bif Nat.beq f 14 then true else false
  retVec f := bif Nat.beq f 76 then true else false
  cuts f := bif Nat.blt f 35 then (bif Nat.blt f 13 then (bif Nat.beq f 4 then [([1, 1, 1, 1, 1], ⟨[1, 3, 4], 8, [], []⟩)] else []) else (bif Nat.beq f 13 then [([1, 1, 1, 1], ⟨[3, 4, 5, 8], 3, [(.slot 5, 0), (.cell 2 0, 0)], []⟩)] else [])) else (bif Nat.blt f 36 then (bif Nat.beq f 35 then [([1, 0, 1, 2, 1, 1], ⟨[1, 2, 3, 6, 7, 24], 2, [], []⟩)] else []) else (bif Nat.blt f 40 then (bif Nat.beq f 36 then [([1, 0, 1], ⟨[0, 3, 5, 6, 21], 3, [], []⟩)] else []) else (bif Nat.beq f 40 then [([1, 1], ⟨[1, 2], 1, [(.slot 1, 0)], []⟩), ([1, 0, 1], ⟨[1, 2, 15], 1, [(.slot 1, 0)], []⟩)] else [])))
  lend f d := false
  moved f := false
  prim f := primOf clones f
noncomputable abbrev Pr := Go.Proofs.Tryd.prog
noncomputable abbrev V : FuncId → List Arg → Option Out := AL.V Pr T
theorem pa : PrimA T := primOf_A clones fun f => rfl
theorem tok : TOk Pr := TOk.of _ (by kernel_rfl) (by kernel_rfl)
theorem fok : FOk Pr := FOk.of (by kernel_rfl)
theorem mixed : Go.Proofs.Tryd.prog.follows .mixedOrders = true := by kernel_rfl
theorem c76_nn (call) (xs : List PV) : run Pr (envOf T call) 76 0 [.pv (.nn xs)] = cloneOutV 3 48 xs := by kernel_rfl
theorem c76_nil (call) : run Pr (envOf T call) 76 0 [.pv .nils] = some (.vec 3 [], []) := by kernel_rfl
theorem prims : PrimOk Pr T := primOf_ok tok fok mixed clones (fun f => rfl) (by
  intro c hc call
  simp only [clones, List.mem_cons, List.not_mem_nil, or_false] at hc
  rcases hc with rfl
  · exact ⟨c76_nn call, c76_nil call⟩)
theorem snd (n : Nat) : CallOk Pr (acall Pr T n) := sound tok fok mixed prims n
theorem e76 (xs : List PV) : V 76 [.pv (.lst xs)] = cloneOutV 3 48 xs := V_prim pa (g := clonePrimV 3 48) rfl _
end Go.AL.S5
