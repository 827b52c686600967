/- strconv.AppendInt: its walk. -/
import Derived.Test.YtlmodlihiglnhaaDoorS8T
import Derived.WalkKit
import Derived.Deep.LoopGhost
import Derived.Deep.RegionLaw
import Derived.Lib.Walk
import Derived.OwnWalk
import Derived.BigCall
import Derived.BigGuard
import Derived.Handy
import Derived.Test.YtlmodlihiglnhaaDoorChecked
set_option linter.unusedVariables false
set_option linter.unusedSimpArgs false
namespace Go.Proofs
open Go.RowKit Go.Lib

set_option maxHeartbeats 1000000 in
theorem Tryd.tz153 (w : World) (hcell : w.cell? ⟨5, 15, none⟩ = some (.int .u8 4)) : Calls Tryd.prog 153 #[.int .u64 16] w fun e w' => e = .returned (.int .i64 4) ∧ w' = w := by
  have key : IntKind.u64.wrap (bits BinOp.and IntKind.u64 16 (IntKind.u64.wrap (-16)) * 285870213051353865) / 288230376151711744 = ((15 : Nat) : Int) := by decide
  go_enter Tryd.func153, Tryd.ntmps153
  go_wp2_with (simp only [key])
  go_ret
  exact ⟨rfl, rfl⟩
theorem Tryd.tz145 (w : World) (hcell : w.cell? ⟨5, 15, none⟩ = some (.int .u8 4)) : Calls Tryd.prog 145 #[.int .u64 16] w fun e w' => e = .returned (.int .i64 4) ∧ w' = w := by
  go_enter Tryd.func145, Tryd.ntmps145
  go_wp2_with fail
  go_call (Tryd.tz153 w hcell) as e w2 ⟨rfl, rfl⟩
  go_wp2
  go_ret
  exact ⟨rfl, rfl⟩
theorem Tryd.pw144 (w : World) : Calls Tryd.prog 144 #[.int .i64 16] w fun e w' => e = .returned (.bool true) ∧ w' = w := by
  have key : bits BinOp.and IntKind.i64 16 15 = 0 := by decide
  go_enter Tryd.func144, Tryd.ntmps144
  go_wp2_with (simp only [key])
  go_ret
  exact ⟨rfl, rfl⟩

theorem Tryd.digit (u : Nat) (hu : u < 16) (h : u < (⟨#[48, 49, 50, 51, 52, 53, 54, 55, 56, 57, 97, 98, 99, 100, 101, 102, 103, 104, 105, 106, 107, 108, 109, 110, 111, 112, 113, 114, 115, 116, 117, 118, 119, 120, 121, 122]⟩ : ByteArray).size) : (((⟨#[48, 49, 50, 51, 52, 53, 54, 55, 56, 57, 97, 98, 99, 100, 101, 102, 103, 104, 105, 106, 107, 108, 109, 110, 111, 112, 113, 114, 115, 116, 117, 118, 119, 120, 121, 122]⟩ : ByteArray)[u]'h).toNat : Int) = AL.S8.hx u := by
  obtain rfl | rfl | rfl | rfl | rfl | rfl | rfl | rfl | rfl | rfl | rfl | rfl | rfl | rfl | rfl | rfl : u = 0 ∨ u = 1 ∨ u = 2 ∨ u = 3 ∨ u = 4 ∨ u = 5 ∨ u = 6 ∨ u = 7 ∨ u = 8 ∨ u = 9 ∨ u = 10 ∨ u = 11 ∨ u = 12 ∨ u = 13 ∨ u = 14 ∨ u = 15 := by omega
  all_goals rfl
theorem wpList_opTo {P : Program} {ops : Array Oper} {Q : Exit → Act → World → Prop} {a : Act} {w : World} {rest : List Oper} {o : Oper} {N : Value → World → Prop} {X : Op} (hgd : o.guard = none) (ho : o.op = X) (h : AL.OpTo P o a w N) (k : ∀ u w', N u w' → wpList P ops Q rest (a.put o.dst u) w') : wpList P ops Q (o :: rest) a w :=
  wpList_plain hgd fun K hK => h K Q fun u w' hu => hK _ _ (k u w' hu)
/-- The operation that puts the digits behind what was there. -/
def App (v : Value) (off n : Nat) (w W : World) (N : Value → World → Prop) : Prop := ∀ (a : Act) (o : Oper), o.op = .call { callee := .builtin .append, args := #[.tmp 95, .tmp 97], argTypes := #[84, 84] } → o.type = 84 → a.eval (.tmp 95) = v → a.eval (.tmp 97) = .slice (some ⟨w.heap.size, off, none⟩) n n → AL.OpTo Tryd.prog o a W N
set_option maxHeartbeats 2000000 in
set_option maxRecDepth 100000 in
theorem Tryd.fb129_small (v : Value) (u : Nat) (hu : u < 16) (w : World) (hsz : 5 < w.heap.size) (hcell : w.cell? ⟨5, 15, none⟩ = some (.int .u8 4)) (N : Value → World → Prop) 
  (happ : ∀ d, d = AL.S8.hx u → App v 64 1 w (w.alloc (.cells (zeroCells203.setIfInBounds 64 (.int .u8 d)) 203)) N) : Calls Tryd.prog 129 #[v, .int .u64 u, .int .i64 16, .bool false, .bool true] w fun e w' => ∃ x, e = .returned (.tuple #[x, .string ⟨#[]⟩]) ∧ N x w' := by
  go_enter Tryd.func129, Tryd.ntmps129
  go_wp2_with fail
  go_call (Tryd.pw144 _) as e w2 ⟨rfl, rfl⟩
  go_wp2_with fail
  go_call (Tryd.tz145 _ ((World.cell?_alloc_lt w _ ⟨5, 15, none⟩ hsz).trans hcell)) as e w2 ⟨rfl, rfl⟩
  go_wp2_with fail
  refine wp_loop_rounds 1 ?_
  rw [rounds_succ]
  go_wp2_with (refine wpList_opTo (N := N) (X := .call { callee := .builtin .append, args := #[.tmp 95, .tmp 97], argTypes := #[84, 84] }) rfl rfl ?_ ?_)
  · exact happ _ (Tryd.digit u hu _) _ _ rfl rfl rfl rfl
  · intro x w' hN
    go_wp2
    go_ret2
    exact ⟨x, rfl, hN⟩
set_option maxHeartbeats 2000000 in
set_option maxRecDepth 100000 in
theorem Tryd.fb129_big (v : Value) (u : Nat) (hu : 16 ≤ u) (hu2 : u < 256) (w : World) (hsz : 5 < w.heap.size) (hcell : w.cell? ⟨5, 15, none⟩ = some (.int .u8 4)) (N : Value → World → Prop) 
  (happ : ∀ d e, d = AL.S8.hx (u / 16) → e = AL.S8.hx (u % 16) → App v 63 2 w (w.alloc (.cells ((zeroCells203.setIfInBounds 64 (.int .u8 e)).setIfInBounds 63 (.int .u8 d)) 203)) N) : Calls Tryd.prog 129 #[v, .int .u64 u, .int .i64 16, .bool false, .bool true] w fun e w' => ∃ x, e = .returned (.tuple #[x, .string ⟨#[]⟩]) ∧ N x w' := by
  have key1 : bits .and .u64 (u : Int) 15 = ((u % 16 : Nat) : Int) := by
    have h := bits_and_u64_nat u 15 (by omega) (by omega)
    rw [show ((15 : Nat) : Int) = 15 from rfl] at h
    rw [h, show (15 : Nat) = 2 ^ 4 - 1 from rfl, Nat.and_two_pow_sub_one_eq_mod]
  go_enter Tryd.func129, Tryd.ntmps129
  go_wp2_with fail
  go_call (Tryd.pw144 _) as e w2 ⟨rfl, rfl⟩
  go_wp2_with fail
  go_call (Tryd.tz145 _ ((World.cell?_alloc_lt w _ ⟨5, 15, none⟩ hsz).trans hcell)) as e w2 ⟨rfl, rfl⟩
  go_wp2_with fail
  refine wp_loop_rounds 2 ?_
  rw [rounds_succ]
  go_wp2_with (simp only [key1])
  rw [show ((u : Int) / 16) = ((u / 16 : Nat) : Int) by omega, rounds_succ]
  have hq : u / 16 < 16 := by omega
  go_wp2_with (refine wpList_opTo (N := N) (X := .call { callee := .builtin .append, args := #[.tmp 95, .tmp 97], argTypes := #[84, 84] }) rfl rfl ?_ ?_)
  · exact happ _ _ (Tryd.digit (u / 16) hq _) (Tryd.digit (u % 16) (by omega) _) _ _ rfl rfl rfl rfl
  · intro x w' hN
    go_wp2
    go_ret2
    exact ⟨x, rfl, hN⟩
set_option maxHeartbeats 2000000 in
set_option maxRecDepth 100000 in
theorem Tryd.fb129 (v : Value) (u : Nat) (hu : u < 256) (w : World) (hsz : 5 < w.heap.size) (hcell : w.cell? ⟨5, 15, none⟩ = some (.int .u8 4)) (N : Value → World → Prop)
  (h1 : u < 16 → App v 64 1 w (w.alloc (.cells (zeroCells203.setIfInBounds 64 (.int .u8 (AL.S8.hx u))) 203)) N)
  (h2 : 16 ≤ u → App v 63 2 w (w.alloc (.cells ((zeroCells203.setIfInBounds 64 (.int .u8 (AL.S8.hx (u % 16)))).setIfInBounds 63 (.int .u8 (AL.S8.hx (u / 16)))) 203)) N) :
  Calls Tryd.prog 129 #[v, .int .u64 u, .int .i64 16, .bool false, .bool true] w fun e w' => ∃ x, e = .returned (.tuple #[x, .string ⟨#[]⟩]) ∧ N x w' := by
  by_cases h : u < 16
  · exact Tryd.fb129_small v u h w hsz hcell N (by rintro _ rfl; exact h1 h)
  · exact Tryd.fb129_big v u (by omega) hu w hsz hcell N (by rintro _ _ rfl rfl; exact h2 (by omega))
theorem Tryd.au107 (v : Value) (u : Nat) (w : World) (N : Value → World → Prop) (h : Calls Tryd.prog 129 #[v, .int .u64 u, .int .i64 16, .bool false, .bool true] w fun e w' => ∃ x, e = .returned (.tuple #[x, .string ⟨#[]⟩]) ∧ N x w') :
  Calls Tryd.prog 107 #[v, .int .u64 u, .int .i64 16] w fun e w' => ∃ x, e = .returned x ∧ N x w' := by
  go_enter Tryd.func107, Tryd.ntmps107
  go_wp2_with fail
  go_call h as e w2 ⟨x, rfl, hN⟩
  go_wp2
  go_ret
  exact ⟨x, rfl, hN⟩
theorem Tryd.ai80 (v : Value) (u : Nat) (hu : u < 256) (w : World) (N : Value → World → Prop) (h : Calls Tryd.prog 107 #[v, .int .u64 u, .int .i64 16] w fun e w' => ∃ x, e = .returned x ∧ N x w') :
  Calls Tryd.prog 80 #[v, .int .i64 u, .int .i64 16] w fun e w' => ∃ x, e = .returned x ∧ N x w' := by
  go_enter Tryd.func80, Tryd.ntmps80
  go_wp2_with fail
  go_call h as e w2 ⟨x, rfl, hN⟩
  go_wp2
  go_ret
  exact ⟨x, rfl, hN⟩
theorem Tryd.ai41 (v : Value) (u : Nat) (hu : u < 256) (w : World) (N : Value → World → Prop) (h : Calls Tryd.prog 107 #[v, .int .u64 u, .int .i64 16] w fun e w' => ∃ x, e = .returned x ∧ N x w') :
  Calls Tryd.prog 41 #[v, .int .i64 u, .int .i64 16] w fun e w' => ∃ x, e = .returned x ∧ N x w' := by
  go_enter Tryd.func41, Tryd.ntmps41
  go_wp2_with fail
  go_call (Tryd.ai80 v u hu w N h) as e w2 ⟨x, rfl, hN⟩
  go_wp2
  go_ret
  exact ⟨x, rfl, hN⟩
end Go.Proofs
