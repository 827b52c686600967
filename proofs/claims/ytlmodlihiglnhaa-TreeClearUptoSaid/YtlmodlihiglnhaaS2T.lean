/- Tables of the abstract machine for this seat: printed by gen.py. -/
import Derived.Test.YtlmodlihiglnhaaALzj
import Derived.Test.YtlmodlihiglnhaaRows
set_option linter.unusedVariables false
namespace Go.AL.S2
open Go Go.AL
def clones : List (Nat × Bool × Nat × Nat) := [(42, false, 1, 16), (110, false, 8, 136)]
def T : Tab where
  heads f b := bif Nat.blt f 45 then (bif Nat.blt f 38 then (bif Nat.blt f 36 then (bif Nat.blt f 15 then (bif Nat.beq f 13 then (bif Nat.beq b 0 then some ⟨[3, 9, 10, 11], 0, [], []⟩ else bif Nat.beq b 2 then some ⟨[3, 9, 10, 11, 18, 19, 20], 0, [], []⟩ else none) else none) else (bif Nat.beq f 15 then (bif Nat.beq b 0 then some ⟨[1, 2, 3, 19, 20, 21], 2, [(.slot 3, 7)], []⟩ else bif Nat.beq b 2 then some ⟨[1, 2, 3, 6, 32, 33, 34], 2, [(.slot 3, 7), (.slot 6, 11)], []⟩ else none) else none)) else (bif Nat.blt f 37 then (bif Nat.beq f 36 then (bif Nat.beq b 0 then some ⟨[3, 4], 0, [(.slot 4, 7)], [.slot 3]⟩ else bif Nat.beq b 2 then some ⟨[3, 4, 5, 6], 1, [(.slot 4, 7)], [.slot 3]⟩ else bif Nat.beq b 4 then some ⟨[3, 4, 5, 7], 1, [(.slot 4, 7)], [.slot 3]⟩ else none) else none) else (bif Nat.beq f 37 then (bif Nat.beq b 0 then some ⟨[3, 4], 0, [(.slot 3, 3)], []⟩ else none) else none))) else (bif Nat.blt f 40 then (bif Nat.blt f 39 then (bif Nat.beq f 38 then (bif Nat.beq b 0 then some ⟨[1, 3, 9, 10, 11], 1, [], []⟩ else bif Nat.beq b 2 then some ⟨[3, 21, 22, 23], 0, [], []⟩ else none) else none) else (bif Nat.beq f 39 then (bif Nat.beq b 0 then some ⟨[3, 9, 10, 11], 0, [(.slot 3, 7)], []⟩ else none) else none)) else (bif Nat.blt f 43 then (bif Nat.beq f 40 then (bif Nat.beq b 0 then some ⟨[0, 1, 12, 13], 0, [], []⟩ else none) else none) else (bif Nat.blt f 44 then (bif Nat.beq f 43 then (bif Nat.beq b 0 then some ⟨[3, 6, 7, 8], 0, [(.slot 3, 2)], []⟩ else none) else none) else (bif Nat.beq f 44 then (bif Nat.beq b 0 then some ⟨[1, 2, 3, 7, 8, 9], 2, [(.slot 3, 3)], []⟩ else none) else none))))) else (bif Nat.blt f 76 then (bif Nat.blt f 47 then (bif Nat.blt f 46 then (bif Nat.beq f 45 then (bif Nat.beq b 0 then some ⟨[1, 2, 15, 16, 17], 0, [], []⟩ else none) else none) else (bif Nat.beq f 46 then (bif Nat.beq b 0 then some ⟨[1, 2, 15, 16, 17], 0, [], []⟩ else none) else none)) else (bif Nat.blt f 75 then (bif Nat.beq f 47 then (bif Nat.beq b 0 then some ⟨[1, 2, 15, 16, 17], 0, [], []⟩ else none) else none) else (bif Nat.beq f 75 then (bif Nat.beq b 0 then some ⟨[3, 7, 8, 9], 0, [], []⟩ else none) else none))) else (bif Nat.blt f 86 then (bif Nat.blt f 77 then (bif Nat.beq f 76 then (bif Nat.beq b 0 then some ⟨[3, 10, 11, 12], 0, [(.slot 3, 7)], []⟩ else none) else none) else (bif Nat.beq f 77 then (bif Nat.beq b 1 then some ⟨[1, 2, 50, 51, 52], 0, [(.slot 2, 0)], []⟩ else bif Nat.beq b 3 then some ⟨[1, 2, 3, 65, 66, 67], 1, [(.slot 2, 0)], []⟩ else bif Nat.beq b 5 then some ⟨[1, 2, 108, 109, 110], 0, [(.slot 2, 0)], []⟩ else none) else none)) else (bif Nat.blt f 112 then (bif Nat.beq f 86 then (bif Nat.beq b 0 then some ⟨[0, 1, 7, 8], 0, [], []⟩ else none) else none) else (bif Nat.blt f 113 then (bif Nat.beq f 112 then (bif Nat.beq b 1 then some ⟨[3, 16, 17, 18], 0, [(.slot 3, 0)], []⟩ else none) else none) else (bif Nat.beq f 113 then (bif Nat.beq b 0 then some ⟨[1, 2, 15, 16, 17], 0, [], []⟩ else none) else none)))))
  kind f d := bif Nat.blt f 42 then (bif Nat.blt f 39 then (bif Nat.blt f 37 then (bif Nat.beq f 36 then (bif Nat.beq d 9 then 2 else bif Nat.beq d 11 then 2 else bif Nat.beq d 15 then 2 else bif Nat.beq d 17 then 2 else bif Nat.beq d 21 then 2 else bif Nat.beq d 23 then 2 else 0) else 0) else (bif Nat.beq f 37 then (bif Nat.beq d 6 then 1 else 0) else 0)) else (bif Nat.blt f 41 then (bif Nat.beq f 39 then (bif Nat.beq d 7 then 1 else 0) else 0) else (bif Nat.beq f 41 then (bif Nat.beq d 4 then 1 else 0) else 0))) else (bif Nat.blt f 77 then (bif Nat.blt f 76 then (bif Nat.beq f 42 then (bif Nat.beq d 5 then 1 else 0) else 0) else (bif Nat.beq f 76 then (bif Nat.beq d 8 then 1 else 0) else 0)) else (bif Nat.blt f 110 then (bif Nat.beq f 77 then (bif Nat.beq d 59 then 1 else bif Nat.beq d 81 then 1 else bif Nat.beq d 90 then 1 else bif Nat.beq d 97 then 1 else bif Nat.beq d 117 then 1 else bif Nat.beq d 123 then 1 else 0) else 0) else (bif Nat.beq f 110 then (bif Nat.beq d 5 then 1 else 0) else 0)))
  mode f j := bif Nat.beq f 77 then (bif Nat.beq j 2 then 2 else 0) else 0
  keepNil f := false
  retVec f := false
  cuts f := bif Nat.blt f 111 then (bif Nat.beq f 77 then [([1, 1, 0, 4, 1, 3, 1, 2, 0, 1], ⟨[2, 3, 36], 1, [(.slot 2, 0)], []⟩), ([1, 1, 1, 0, 1, 4, 5, 1, 1, 0, 4, 1, 1, 0, 1], ⟨[1, 2, 3, 11, 12, 65, 66, 67, 79], 2, [(.slot 2, 0)], []⟩), ([1, 1, 1, 1, 0, 1], ⟨[1, 2, 3, 106], 1, [(.slot 2, 0)], []⟩), ([1, 1, 1, 0, 1, 4, 5, 1, 1, 0, 4, 1, 1, 1], ⟨[1, 2, 3, 11, 12, 65, 66, 67], 2, [(.slot 2, 0)], []⟩)] else []) else (bif Nat.beq f 111 then [([1, 0, 1, 4, 1, 3, 1, 3, 1, 3, 1], ⟨[1, 4, 18], 1, [], []⟩), ([1, 0, 1, 4, 1, 3, 1], ⟨[1, 4, 12], 1, [], []⟩), ([1, 0, 1, 4, 1], ⟨[1, 4, 5], 1, [], []⟩)] else [])
  lend f d := false
  prim f := primOf clones f
noncomputable abbrev Pr := Go.Proofs.Try.prog
noncomputable abbrev V : FuncId → List Arg → Option Out := AL.V Pr T
theorem pa : PrimA T := primOf_A clones fun f => rfl
theorem tok : TOk Pr := TOk.of _ (by kernel_rfl) (by kernel_rfl)
theorem fok : FOk Pr := FOk.of (by kernel_rfl)
theorem mixed : Go.Proofs.Try.prog.follows .mixedOrders = true := by kernel_rfl
theorem c42_nn (call) (xs : List PV) : run Pr (envOf T call) 42 0 [.pv (.nn xs)] = cloneOut 1 16 xs := by kernel_rfl
theorem c42_nil (call) : run Pr (envOf T call) 42 0 [.pv .nils] = some (.bld 1 [], []) := by kernel_rfl
theorem c110_nn (call) (xs : List PV) : run Pr (envOf T call) 110 0 [.pv (.nn xs)] = cloneOut 8 136 xs := by kernel_rfl
theorem c110_nil (call) : run Pr (envOf T call) 110 0 [.pv .nils] = some (.bld 8 [], []) := by kernel_rfl
theorem prims : PrimOk Pr T := primOf_ok tok fok mixed clones (fun f => rfl) (by
  intro c hc call
  simp only [clones, List.mem_cons, List.not_mem_nil, or_false] at hc
  rcases hc with rfl | rfl
  · exact ⟨c42_nn call, c42_nil call⟩
  · exact ⟨c110_nn call, c110_nil call⟩)
theorem snd (n : Nat) : CallOk Pr (acall Pr T n) := sound tok fok mixed prims n
theorem e42 (xs : List PV) : V 42 [.pv (.lst xs)] = cloneOut 1 16 xs := V_prim pa (g := clonePrim 1 16) rfl _
theorem e110 (xs : List PV) : V 110 [.pv (.lst xs)] = cloneOut 8 136 xs := V_prim pa (g := clonePrim 8 136) rfl _
end Go.AL.S2
