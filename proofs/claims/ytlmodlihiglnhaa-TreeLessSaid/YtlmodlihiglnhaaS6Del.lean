/- slices.Delete: its walk (draft). -/
import Derived.Test.YtlmodlihiglnhaaS6Law
import Derived.Shelf.RegionOpenPlain
import Derived.WalkKit
import Derived.Deep.LoopGhost
import Derived.Deep.RegionLaw
import Derived.Lib.Walk
import Derived.Sort.WalkB12
import Derived.Lib.SliceRun
import Derived.Lib.SlicesDelete
import Derived.Shelf.SlicesE.Kit
import Derived.Test.YtlmodlihiglnhaaChecked
set_option linter.unusedVariables false
set_option linter.unusedSimpArgs false
namespace Go.Proofs
open Go.Shelf Go.RowKit Go.Lib Go.Sort

theorem run_clear_k {P : Program} (w : World) (t e ty : TypeId) (y : Value) (ht : P.underlying t = some (.slice e)) (hv : ∀ w, (zeroValue e).run P w = .ok y w) (b o n c : Nat) (hn : 0 < n)
    (h1 : ∀ v ∈ (Builtin.zeroCells y.cells n).toList, v.oneCell' = true)
    (hc : ∀ j, j < (Builtin.zeroCells y.cells n).toList.length → (w.cell? ⟨b, o + j, none⟩).isSome = true) (hf : ∀ j, j < (Builtin.zeroCells y.cells n).toList.length → w.frozen? ⟨b, o + j, none⟩ = false) :
    (Builtin.clear_ #[t] ty #[.slice (some ⟨b, o, none⟩) n c]).run P w = .ok (.tuple #[]) (w.setCells b o (Builtin.zeroCells y.cells n).toList) := by
  have hst := run_storeCells_cells (P := P) b o (Builtin.zeroCells y.cells n).toList 0 w (by simpa using hc) (by simpa using hf) h1
  simp only [Nat.add_zero] at hst
  obtain ⟨m, rfl⟩ : ∃ m, n = m + 1 := ⟨n - 1, by omega⟩
  simp [Builtin.clear_, run_underlying ht, hv, hst]

set_option maxHeartbeats 4000000 in
set_option maxRecDepth 1000000 in
theorem Try.delete90 (blk off cap n i j : Nat) (news : List Value) (w : World) (cs : Array Value) (hy : ∀ w, (zeroValue 111).run Try.prog w = .ok (.agg cs) w) (i0 : TypeInfo) (hi0 : Try.prog.info? 111 = some i0) (hz1 : i0.size = 3)
    (hy1 : ∀ m, ∀ v ∈ (Builtin.zeroCells cs m).toList, v.oneCell' = true) (hy2 : ∀ m, (Builtin.zeroCells cs m).toList.length = m * 3)
    (hcap : n ≤ cap) (hlt : i < j) (hj : j ≤ n)
    (s1 : Hid (news.length = (n - j) * 3)) (s2 : Hid (∀ u ∈ news, u.oneCell' = true)) (A : Addr) (hA : (if cap = j then some (⟨blk, off, none⟩ : Addr) else some ⟨blk, off + j * 3, none⟩) = some A) (hsrc : Hid (∀ t u, news[t]? = some u → w.drew.cell? (A.add t) = some u))
    (s3 : Hid (∀ t, t < news.length → (w.drew.cell? ⟨blk, off + i * 3 + t, none⟩).isSome = true ∧ w.drew.frozen? ⟨blk, off + i * 3 + t, none⟩ = false)) (W1 : World) (hW : Hid (W1 = w.drew.setCells blk (off + i * 3) news))
    (hcl : ∀ ty, (Builtin.clear_ #[56] ty #[.slice (some ⟨blk, off + (i + (n - j)) * 3, none⟩) (n - (i + (n - j))) (cap - (i + (n - j)))]).run Try.prog W1 = .ok (.tuple #[]) (W1.setCells blk (off + (i + (n - j)) * 3) (Builtin.zeroCells cs (n - (i + (n - j)))).toList)) :
    Calls Try.prog 90 #[.slice (some ⟨blk, off, none⟩) n cap, .int .i64 i, .int .i64 j] w fun e w' => e = .returned (.slice (some ⟨blk, off, none⟩) (n - (j - i)) cap) ∧ w' = W1.setCells blk (off + (i + (n - j)) * 3) (Builtin.zeroCells cs (n - (i + (n - j)))).toList := by
  have mixed : Try.prog.follows .mixedOrders = true := by kernel_rfl
  have hic : i ≤ cap := by omega
  have hjc : j ≤ cap := by omega
  go_enter Try.func90, Try.ntmps90
  go_wp2_with fail
  go_region_law_o (refine step_append_room rfl (.tmp 22) (.tmp 25) 56 rfl 111 i0 3 Try.underlying56 hi0 hz1 blk off i cap (by simp [Act.eval, Act.put]) A (n - j) (cap - j) news (by simp [Act.eval, Act.put]) s1.out hsrc.out s2.out (by omega) s3.out ?_; rw [← hW.out])
  go_wp2
  go_ret
  exact ⟨by rw [show n - (j - i) = i + (n - j) by omega]; rfl, rfl⟩
end Go.Proofs
