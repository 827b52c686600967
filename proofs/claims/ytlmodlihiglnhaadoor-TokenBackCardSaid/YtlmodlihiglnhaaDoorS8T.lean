/- Tables of the abstract machine for this seat: printed by gen.py. -/
import Derived.Test.YtlmodlihiglnhaaDoorS8Prims
import Derived.Test.YtlmodlihiglnhaaDoorRows
set_option linter.unusedVariables false
namespace Go.AL.S8
open Go Go.AL
def clones : List (Nat × Bool × Nat × Nat) := []
def extras : List (Nat × (List Arg → Option Out)) := [(22, joinP), (41, hexP)]
def T : Tab where
  heads f b := bif Nat.blt f 42 then (bif Nat.blt f 20 then (bif Nat.blt f 19 then (bif Nat.beq f 6 then (bif Nat.beq b 0 then some ⟨[3, 6, 29, 30, 31], 0, [(.slot 6, 0)], []⟩ else bif Nat.beq b 2 then some ⟨[3, 12, 70, 71], 0, [], []⟩ else none) else none) else (bif Nat.beq f 19 then (bif Nat.beq b 0 then some ⟨[4, 12, 13, 14], 0, [(.slot 4, 0)], []⟩ else none) else none)) else (bif Nat.blt f 21 then (bif Nat.beq f 20 then (bif Nat.beq b 0 then some ⟨[0, 5, 6], 0, [(.slot 5, 2)], []⟩ else none) else none) else (bif Nat.beq f 21 then (bif Nat.beq b 1 then some ⟨[1, 4, 43, 44, 45], 1, [], []⟩ else none) else none))) else (bif Nat.blt f 46 then (bif Nat.blt f 43 then (bif Nat.beq f 42 then (bif Nat.beq b 0 then some ⟨[0, 1], 0, [], []⟩ else bif Nat.beq b 3 then some ⟨[0, 1], 0, [], []⟩ else none) else none) else (bif Nat.beq f 43 then (bif Nat.beq b 1 then some ⟨[0, 1, 4, 7, 8], 1, [], []⟩ else bif Nat.beq b 3 then some ⟨[0, 1, 4, 8], 1, [], []⟩ else none) else none)) else (bif Nat.blt f 84 then (bif Nat.beq f 46 then (bif Nat.beq b 0 then some ⟨[0, 5, 6, 7], 0, [], []⟩ else none) else none) else (bif Nat.blt f 85 then (bif Nat.beq f 84 then (bif Nat.beq b 0 then some ⟨[0, 1, 7], 0, [(.slot 7, 0)], []⟩ else none) else none) else (bif Nat.beq f 85 then (bif Nat.beq b 0 then some ⟨[23, 24, 25], 0, [], []⟩ else none) else none))))
  kind f d := bif Nat.beq f 19 then (bif Nat.beq d 10 then 1 else bif Nat.beq d 57 then 1 else 0) else 0
  mode f j := bif Nat.blt f 41 then (bif Nat.beq f 22 then (0) else 0) else (bif Nat.beq f 41 then (bif Nat.beq j 0 then 2 else 0) else 0)
  keepNil f := false
  retVec f := false
  cuts f := bif Nat.blt f 43 then (bif Nat.blt f 21 then (bif Nat.beq f 19 then [([1, 1, 1, 0, 1, 4, 5, 1, 1, 0, 4, 1, 4, 1], ⟨[4, 6, 12, 13, 14, 22], 0, [(.slot 4, 0)], []⟩), ([1, 1, 1, 0, 1, 4, 5, 1, 1, 0, 4, 1, 4, 1, 3, 1, 3, 1], ⟨[4, 6, 12, 13, 14, 39], 0, [(.slot 4, 0)], []⟩)] else []) else (bif Nat.blt f 42 then (bif Nat.beq f 21 then [([1, 0, 1, 4, 1, 3, 1, 3, 1, 3, 1, 2, 1], ⟨[1, 4], 1, [], []⟩)] else []) else (bif Nat.beq f 42 then [([1, 0, 4, 5, 1, 4, 1, 4, 1], ⟨[0, 1, 11, 13], 0, [], []⟩)] else []))) else (bif Nat.blt f 84 then (bif Nat.blt f 48 then (bif Nat.beq f 43 then [([1, 1, 1, 0, 4, 1], ⟨[0, 1, 4, 7, 8, 18], 1, [], []⟩), ([1, 1, 1, 0, 4, 1, 2, 1, 1, 1], ⟨[1, 4, 8, 9], 2, [], []⟩), ([1, 1, 1, 0, 4, 1, 2, 1], ⟨[0, 1, 4, 7, 8], 1, [], []⟩), ([1, 1, 1, 0, 4, 1, 3, 1, 2, 1], ⟨[0, 1, 4, 8], 1, [], []⟩)] else []) else (bif Nat.beq f 48 then [([1, 0, 1], ⟨[0, 1, 25], 0, [], []⟩), ([1, 1, 0, 1, 4, 1], ⟨[0, 1, 34], 0, [], []⟩)] else [])) else (bif Nat.blt f 108 then (bif Nat.beq f 84 then [([1, 1, 0, 1, 4, 5, 1, 4, 1, 1, 1, 0, 1, 4, 1, 3, 1], ⟨[0, 1, 7, 55, 62], 0, [(.slot 7, 0)], []⟩)] else []) else (bif Nat.beq f 108 then [([1, 0, 4, 1, 3, 1], ⟨[0, 9], 0, [], []⟩)] else [])))
  lend f d := false
  moved f := false
  prim f := primXs extras clones f
noncomputable abbrev Pr := Go.Proofs.Tryd.prog
noncomputable abbrev V : FuncId → List Arg → Option Out := AL.V Pr T
theorem pa : PrimA T := primXs_A clones fun f => rfl
theorem tok : TOk Pr := TOk.of _ (by kernel_rfl) (by kernel_rfl)
theorem fok : FOk Pr := FOk.of (by kernel_rfl)
theorem mixed : Go.Proofs.Tryd.prog.follows .mixedOrders = true := by kernel_rfl
theorem prims (hx : ∀ x, x ∈ extras → ∀ args out, x.2 args = some out → args.all plainArg = true → CSpec Pr x.1 args out) : PrimOk Pr T := primXs_ok tok fok mixed hx clones (fun f => rfl) (by
  intro c hc call
  exact absurd hc (List.not_mem_nil))
end Go.AL.S8
