/- Tables of the abstract machine for this seat: printed by gen.py. -/
import Derived.Test.YtlmodlihiglnhaaS4SortP
import Derived.Test.YtlmodlihiglnhaaRows
set_option linter.unusedVariables false
namespace Go.AL.S4
open Go Go.AL
def clones : List (Nat × Bool × Nat × Nat) := [(88, true, 3, 48), (116, false, 4, 64)]
def T : Tab where
  heads f b := bif Nat.blt f 51 then (bif Nat.blt f 19 then (bif Nat.blt f 7 then (bif Nat.blt f 6 then (bif Nat.beq f 5 then (bif Nat.beq b 0 then some ⟨[0, 3, 15, 16, 17], 0, [], []⟩ else none) else none) else (bif Nat.beq f 6 then (bif Nat.beq b 0 then some ⟨[3, 23, 24, 25], 0, [], []⟩ else none) else none)) else (bif Nat.blt f 17 then (bif Nat.beq f 7 then (bif Nat.beq b 0 then some ⟨[1, 5, 27, 28, 29], 0, [(.slot 5, 5)], []⟩ else bif Nat.beq b 2 then some ⟨[1, 10, 63, 64, 65], 0, [], []⟩ else bif Nat.beq b 4 then some ⟨[1, 10, 63, 64, 65, 75, 76, 77], 0, [], []⟩ else none) else none) else (bif Nat.beq f 17 then (bif Nat.beq b 0 then some ⟨[3, 10, 11, 12], 0, [], []⟩ else none) else none))) else (bif Nat.blt f 45 then (bif Nat.blt f 20 then (bif Nat.beq f 19 then (bif Nat.beq b 0 then some ⟨[4, 8, 9, 10], 0, [], [.slot 4]⟩ else none) else none) else (bif Nat.beq f 20 then (bif Nat.beq b 0 then some ⟨[3, 4, 5, 6, 9, 10, 11], 2, [(.slot 5, 0), (.slot 6, 2)], [.slot 9]⟩ else none) else none)) else (bif Nat.blt f 50 then (bif Nat.beq f 45 then (bif Nat.beq b 0 then some ⟨[1, 2, 15, 16, 17], 0, [], []⟩ else none) else none) else (bif Nat.beq f 50 then (bif Nat.beq b 0 then some ⟨[4, 5, 6], 0, [], []⟩ else bif Nat.beq b 2 then some ⟨[4, 5, 7, 21, 22, 23], 0, [(.slot 7, 2)], []⟩ else none) else none)))) else (bif Nat.blt f 82 then (bif Nat.blt f 56 then (bif Nat.blt f 55 then (bif Nat.beq f 51 then (bif Nat.beq b 1 then some ⟨[0, 4, 5, 86, 87], 2, [], [.slot 0]⟩ else none) else none) else (bif Nat.beq f 55 then (bif Nat.beq b 0 then some ⟨[1, 2, 3, 6, 39, 40, 41], 2, [], [.slot 39]⟩ else none) else none)) else (bif Nat.blt f 57 then (bif Nat.beq f 56 then (bif Nat.beq b 0 then some ⟨[0, 1, 7, 8], 0, [], []⟩ else none) else none) else (bif Nat.beq f 57 then (bif Nat.beq b 0 then some ⟨[1, 22, 23, 24], 0, [(.slot 1, 0)], []⟩ else none) else none))) else (bif Nat.blt f 114 then (bif Nat.blt f 86 then (bif Nat.beq f 82 then (bif Nat.beq b 0 then some ⟨[8, 9, 29, 30, 31], 0, [], [.slot 9]⟩ else none) else none) else (bif Nat.beq f 86 then (bif Nat.beq b 0 then some ⟨[0, 1, 7, 8], 0, [], []⟩ else none) else none)) else (bif Nat.blt f 117 then (bif Nat.beq f 114 then (bif Nat.beq b 0 then some ⟨[0, 1, 7, 8], 0, [], []⟩ else none) else none) else (bif Nat.beq f 117 then (bif Nat.beq b 0 then some ⟨[4, 5, 11, 12, 13], 0, [], []⟩ else none) else none))))
  kind f d := bif Nat.blt f 51 then (bif Nat.blt f 19 then (bif Nat.blt f 7 then (bif Nat.beq f 5 then (bif Nat.beq d 26 then 1 else 0) else 0) else (bif Nat.beq f 7 then (bif Nat.beq d 71 then 1 else 0) else 0)) else (bif Nat.blt f 20 then (bif Nat.beq f 19 then (bif Nat.beq d 20 then 6 else bif Nat.beq d 28 then 3 else 0) else 0) else (bif Nat.blt f 24 then (bif Nat.beq f 20 then (bif Nat.beq d 10 then 2 else bif Nat.beq d 13 then 2 else 0) else 0) else (bif Nat.beq f 24 then (bif Nat.beq d 4 then 1 else 0) else 0)))) else (bif Nat.blt f 82 then (bif Nat.blt f 55 then (bif Nat.beq f 51 then (bif Nat.beq d 12 then 3 else bif Nat.beq d 15 then 3 else bif Nat.beq d 50 then 6 else bif Nat.beq d 60 then 6 else bif Nat.beq d 102 then 6 else 0) else 0) else (bif Nat.blt f 57 then (bif Nat.beq f 55 then (bif Nat.beq d 36 then 2 else bif Nat.beq d 37 then 3 else bif Nat.beq d 40 then 2 else bif Nat.beq d 44 then 2 else bif Nat.beq d 53 then 2 else bif Nat.beq d 55 then 3 else 0) else 0) else (bif Nat.beq f 57 then (bif Nat.beq d 30 then 1 else 0) else 0))) else (bif Nat.blt f 88 then (bif Nat.beq f 82 then (bif Nat.beq d 24 then 1 else bif Nat.beq d 57 then 2 else 0) else 0) else (bif Nat.blt f 116 then (bif Nat.beq f 88 then (bif Nat.beq d 5 then 2 else 0) else 0) else (bif Nat.beq f 116 then (bif Nat.beq d 5 then 1 else 0) else 0))))
  mode f j := bif Nat.blt f 52 then (bif Nat.blt f 51 then (bif Nat.beq f 20 then (bif Nat.beq j 0 then 1 else 0) else 0) else (bif Nat.beq f 51 then (bif Nat.beq j 0 then 1 else 0) else 0)) else (bif Nat.blt f 57 then (bif Nat.beq f 52 then (bif Nat.beq j 0 then 1 else 0) else 0) else (bif Nat.beq f 57 then (bif Nat.beq j 1 then 2 else 0) else 0))
  keepNil f := false
  retVec f := bif Nat.blt f 82 then (bif Nat.beq f 51 then true else false) else (bif Nat.blt f 88 then (bif Nat.beq f 82 then true else false) else (bif Nat.beq f 88 then true else false))
  cuts f := bif Nat.blt f 55 then (bif Nat.beq f 51 then [([1, 1, 0, 4, 1, 3, 1], ⟨[0, 4, 5, 31], 2, [], [.slot 0]⟩), ([1, 1, 0, 4, 1], ⟨[0, 4, 5, 16], 2, [], [.slot 0]⟩)] else []) else (bif Nat.blt f 57 then (bif Nat.beq f 55 then [([1, 0, 1, 2, 1, 1], ⟨[1, 2, 3, 6, 7, 24], 2, [], []⟩)] else []) else (bif Nat.beq f 57 then [([1, 1], ⟨[1, 2], 1, [(.slot 1, 0)], []⟩), ([1, 0, 1], ⟨[1, 2, 15], 1, [(.slot 1, 0)], []⟩)] else []))
  lend f d := false
  moved f := bif Nat.beq f 51 then true else false
  prim f := primX 52 sortP clones f
noncomputable abbrev Pr := Go.Proofs.Try.prog
noncomputable abbrev V : FuncId → List Arg → Option Out := AL.V Pr T
theorem pa : PrimA T := primX_A clones fun f => rfl
theorem tok : TOk Pr := TOk.of _ (by kernel_rfl) (by kernel_rfl)
theorem fok : FOk Pr := FOk.of (by kernel_rfl)
theorem mixed : Go.Proofs.Try.prog.follows .mixedOrders = true := by kernel_rfl
theorem c88_nn (call) (xs : List PV) : run Pr (envOf T call) 88 0 [.pv (.nn xs)] = cloneOutV 3 48 xs := by kernel_rfl
theorem c88_nil (call) : run Pr (envOf T call) 88 0 [.pv .nils] = some (.vec 3 [], []) := by kernel_rfl
theorem c116_nn (call) (xs : List PV) : run Pr (envOf T call) 116 0 [.pv (.nn xs)] = cloneOut 4 64 xs := by kernel_rfl
theorem c116_nil (call) : run Pr (envOf T call) 116 0 [.pv .nils] = some (.bld 4 [], []) := by kernel_rfl
theorem prims (hx : ∀ args out, sortP args = some out → args.all plainArg = true → CSpec Pr 52 args out) : PrimOk Pr T := primX_ok tok fok mixed hx clones (fun f => rfl) (by
  intro c hc call
  simp only [clones, List.mem_cons, List.not_mem_nil, or_false] at hc
  rcases hc with rfl | rfl
  · exact ⟨c88_nn call, c88_nil call⟩
  · exact ⟨c116_nn call, c116_nil call⟩)
theorem e88 (xs : List PV) : V 88 [.pv (.lst xs)] = cloneOutV 3 48 xs := V_prim pa (g := clonePrimV 3 48) rfl _
theorem e116 (xs : List PV) : V 116 [.pv (.lst xs)] = cloneOut 4 64 xs := V_prim pa (g := clonePrim 4 64) rfl _
end Go.AL.S4
