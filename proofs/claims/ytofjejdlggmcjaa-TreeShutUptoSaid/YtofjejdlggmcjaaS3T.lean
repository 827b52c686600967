/- Tables of the abstract machine for this seat: printed by gen.py. -/
import Derived.Test.YtofjejdlggmcjaaAL4
import Derived.Test.YtofjejdlggmcjaaRows
set_option linter.unusedVariables false
namespace Go.AL.S3
open Go Go.AL
def clones : List (Nat × Bool × Nat × Nat) := [(40, true, 1, 16), (91, false, 8, 136)]
def T : Tab where
  heads f b := bif Nat.blt f 67 then (bif Nat.blt f 50 then (bif Nat.blt f 48 then (bif Nat.beq f 43 then (bif Nat.beq b 0 then some ⟨[3, 9, 10, 11], 0, [], []⟩ else bif Nat.beq b 2 then some ⟨[3, 9, 10, 11, 18, 19, 20], 0, [], []⟩ else none) else none) else (bif Nat.blt f 49 then (bif Nat.beq f 48 then (bif Nat.beq b 0 then some ⟨[3, 10, 11, 12], 0, [(.slot 3, 7)], []⟩ else none) else none) else (bif Nat.beq f 49 then (bif Nat.beq b 0 then some ⟨[1, 3, 9, 10, 11], 1, [], []⟩ else bif Nat.beq b 2 then some ⟨[3, 21, 22, 23], 0, [], []⟩ else none) else none))) else (bif Nat.blt f 58 then (bif Nat.beq f 50 then (bif Nat.beq b 0 then some ⟨[3, 9, 10, 11], 0, [(.slot 3, 7)], []⟩ else none) else none) else (bif Nat.blt f 60 then (bif Nat.beq f 58 then (bif Nat.beq b 0 then some ⟨[0, 1, 5, 6], 0, [], [.slot 0]⟩ else none) else none) else (bif Nat.beq f 60 then (bif Nat.beq b 0 then some ⟨[0, 1, 12, 13], 0, [], []⟩ else none) else none)))) else (bif Nat.blt f 87 then (bif Nat.blt f 82 then (bif Nat.beq f 67 then (bif Nat.beq b 0 then some ⟨[0, 1, 7, 8], 0, [], []⟩ else none) else none) else (bif Nat.blt f 86 then (bif Nat.beq f 82 then (bif Nat.beq b 1 then some ⟨[3, 16, 17, 18], 0, [(.slot 3, 0)], []⟩ else none) else none) else (bif Nat.beq f 86 then (bif Nat.beq b 0 then some ⟨[3, 4], 0, [(.slot 4, 7)], [.slot 3]⟩ else bif Nat.beq b 2 then some ⟨[3, 4, 5, 6], 1, [(.slot 4, 7)], [.slot 3]⟩ else bif Nat.beq b 4 then some ⟨[3, 4, 5, 7], 1, [(.slot 4, 7)], [.slot 3]⟩ else none) else none))) else (bif Nat.blt f 94 then (bif Nat.blt f 92 then (bif Nat.beq f 87 then (bif Nat.beq b 0 then some ⟨[3, 4], 0, [(.slot 3, 3)], []⟩ else none) else none) else (bif Nat.beq f 92 then (bif Nat.beq b 0 then some ⟨[3, 7, 8, 9], 0, [], []⟩ else none) else none)) else (bif Nat.blt f 95 then (bif Nat.beq f 94 then (bif Nat.beq b 1 then some ⟨[1, 2, 50, 51, 52], 0, [(.slot 2, 0)], []⟩ else bif Nat.beq b 3 then some ⟨[1, 2, 3, 65, 66, 67], 1, [(.slot 2, 0)], []⟩ else bif Nat.beq b 5 then some ⟨[1, 2, 108, 109, 110], 0, [(.slot 2, 0)], []⟩ else none) else none) else (bif Nat.beq f 95 then (bif Nat.beq b 0 then some ⟨[0, 1, 7, 8], 0, [], []⟩ else none) else none))))
  kind f d := bif Nat.blt f 58 then (bif Nat.blt f 48 then (bif Nat.blt f 40 then (bif Nat.beq f 16 then (bif Nat.beq d 20 then 2 else bif Nat.beq d 21 then 1 else bif Nat.beq d 22 then 4 else 0) else 0) else (bif Nat.beq f 40 then (bif Nat.beq d 5 then 2 else 0) else 0)) else (bif Nat.blt f 50 then (bif Nat.beq f 48 then (bif Nat.beq d 8 then 1 else 0) else 0) else (bif Nat.blt f 57 then (bif Nat.beq f 50 then (bif Nat.beq d 7 then 1 else 0) else 0) else (bif Nat.beq f 57 then (bif Nat.beq d 4 then 1 else 0) else 0)))) else (bif Nat.blt f 87 then (bif Nat.blt f 86 then (bif Nat.beq f 58 then (bif Nat.beq d 18 then 2 else bif Nat.beq d 24 then 2 else bif Nat.beq d 33 then 2 else bif Nat.beq d 38 then 5 else bif Nat.beq d 41 then 5 else 0) else 0) else (bif Nat.beq f 86 then (bif Nat.beq d 9 then 2 else bif Nat.beq d 11 then 2 else bif Nat.beq d 15 then 2 else bif Nat.beq d 17 then 2 else bif Nat.beq d 21 then 2 else bif Nat.beq d 23 then 2 else 0) else 0)) else (bif Nat.blt f 91 then (bif Nat.beq f 87 then (bif Nat.beq d 6 then 1 else 0) else 0) else (bif Nat.blt f 94 then (bif Nat.beq f 91 then (bif Nat.beq d 5 then 1 else 0) else 0) else (bif Nat.beq f 94 then (bif Nat.beq d 59 then 1 else bif Nat.beq d 81 then 1 else bif Nat.beq d 90 then 1 else bif Nat.beq d 97 then 1 else bif Nat.beq d 117 then 1 else bif Nat.beq d 123 then 1 else 0) else 0))))
  mode f j := bif Nat.blt f 94 then (bif Nat.beq f 58 then (bif Nat.beq j 0 then 1 else 0) else 0) else (bif Nat.beq f 94 then (bif Nat.beq j 2 then 2 else 0) else 0)
  keepNil f := false
  retVec f := bif Nat.beq f 40 then true else false
  cuts f := bif Nat.blt f 108 then (bif Nat.beq f 94 then [([1, 1, 0, 4, 1, 3, 1, 2, 0, 1], ⟨[2, 3, 36], 1, [(.slot 2, 0)], []⟩), ([1, 1, 1, 0, 1, 4, 5, 1, 1, 0, 4, 1, 1, 0, 1], ⟨[1, 2, 3, 11, 12, 65, 66, 67, 79], 2, [(.slot 2, 0)], []⟩), ([1, 1, 1, 1, 0, 1], ⟨[1, 2, 3, 106], 1, [(.slot 2, 0)], []⟩), ([1, 1, 1, 0, 1, 4, 5, 1, 1, 0, 4, 1, 1, 1], ⟨[1, 2, 3, 11, 12, 65, 66, 67], 2, [(.slot 2, 0)], []⟩)] else []) else (bif Nat.beq f 108 then [([1, 0, 1, 4, 1, 3, 1, 3, 1, 3, 1], ⟨[1, 4, 18], 1, [], []⟩), ([1, 0, 1, 4, 1, 3, 1], ⟨[1, 4, 12], 1, [], []⟩), ([1, 0, 1, 4, 1], ⟨[1, 4, 5], 1, [], []⟩)] else [])
  lend f d := bif Nat.blt f 58 then (bif Nat.beq f 16 then (bif Nat.beq d 25 then true else false) else false) else (bif Nat.beq f 58 then (bif Nat.beq d 10 then true else false) else false)
  prim f := primOf clones f
noncomputable abbrev Pr := Go.Proofs.Try.prog
noncomputable abbrev V : FuncId → List Arg → Option Out := AL.V Pr T
theorem pa : PrimA T := primOf_A clones fun f => rfl
theorem tok : TOk Pr := TOk.of _ (by kernel_rfl) (by kernel_rfl)
theorem fok : FOk Pr := FOk.of (by kernel_rfl)
theorem mixed : Go.Proofs.Try.prog.follows .mixedOrders = true := by kernel_rfl
theorem c40_nn (call) (xs : List PV) : run Pr (envOf T call) 40 0 [.pv (.nn xs)] = cloneOutV 1 16 xs := by kernel_rfl
theorem c40_nil (call) : run Pr (envOf T call) 40 0 [.pv .nils] = some (.vec 1 [], []) := by kernel_rfl
theorem c91_nn (call) (xs : List PV) : run Pr (envOf T call) 91 0 [.pv (.nn xs)] = cloneOut 8 136 xs := by kernel_rfl
theorem c91_nil (call) : run Pr (envOf T call) 91 0 [.pv .nils] = some (.bld 8 [], []) := by kernel_rfl
theorem prims : PrimOk Pr T := primOf_ok tok fok mixed clones (fun f => rfl) (by
  intro c hc call
  simp only [clones, List.mem_cons, List.not_mem_nil, or_false] at hc
  rcases hc with rfl | rfl
  · exact ⟨c40_nn call, c40_nil call⟩
  · exact ⟨c91_nn call, c91_nil call⟩)
theorem snd (n : Nat) : CallOk Pr (acall Pr T n) := sound tok fok mixed prims n
theorem e40 (xs : List PV) : V 40 [.pv (.lst xs)] = cloneOutV 1 16 xs := V_prim pa (g := clonePrimV 1 16) rfl _
theorem e91 (xs : List PV) : V 91 [.pv (.lst xs)] = cloneOut 8 136 xs := V_prim pa (g := clonePrim 8 136) rfl _
end Go.AL.S3
