/- How many parts an expression needs. -/
import Derived.Test.YtlmodlihiglnhaaDoorS10Tot2
set_option linter.unusedVariables false
set_option linter.unusedSimpArgs false
set_option maxRecDepth 20000
namespace Go.AL.S10
open Go Go.AL

/-- How many parts count. -/
def ndF (k num len : Int) : Int :=
  bif k == 1 then 0 else bif k == 2 then 0 else bif k == 3 then 0 else bif k == 4 then 0 else bif k == 5 then 0 else bif k == 16 then 0 else
  bif k == 10 then 1 else bif k == 13 then 1 else bif k == 19 then 1 else bif k == 20 then 1 else bif k == 21 then 1 else bif k == 22 then 1 else bif k == 24 then 1 else bif k == 25 then 1 else
  bif k == 6 then 2 else bif k == 15 then 2 else bif k == 23 then 2 else bif k == 7 then 3 else bif k == 18 then (bif decide (num < 0) then 0 else 1) else
  bif k == 8 then len else bif k == 9 then len else bif k == 12 then len else bif k == 14 then len else bif k == 17 then len else
  bif k == 11 then (bif decide (len > 1) then len else 1) else -1
theorem kinds (k : Int) : (k = 1 ∨ k = 2 ∨ k = 3 ∨ k = 4 ∨ k = 5 ∨ k = 6 ∨ k = 7 ∨ k = 8 ∨ k = 9 ∨ k = 10 ∨ k = 11 ∨ k = 12 ∨ k = 13 ∨ k = 14 ∨ k = 15 ∨ k = 16 ∨ k = 17 ∨ k = 18 ∨ k = 19 ∨ k = 20 ∨ k = 21 ∨ k = 22 ∨ k = 23 ∨ k = 24 ∨ k = 25) ∨ ∀ i : Int, 1 ≤ i → i ≤ 25 → (k == i) = false := by
  by_cases h : 1 ≤ k ∧ k ≤ 25
  · left; omega
  · right
    intro i h1 h2
    cases hk : k == i with
    | false => rfl
    | true => have : k = i := by simpa using hk
              omega
theorem v96 (k num : Int) (tx : Str) (ns tys args arms : List PV) (at_ : Int) : V 96 [.pv (.agg [.int .i64 k, .int .i64 num, .str tx, .lst ns, .lst tys, .lst args, .lst arms, .int .i64 at_])] = some (.pv (.int .i64 (ndF k num (args.length : Int))), []) := by
  rcases kinds k with h | h
  · rcases h with rfl | rfl | rfl | rfl | rfl | rfl | rfl | rfl | rfl | rfl | rfl | rfl | rfl | rfl | rfl | rfl | rfl | rfl | rfl | rfl | rfl | rfl | rfl | rfl | rfl
    all_goals first
      | (simp [e96, e96_101416, e96_10141316, e96_1014131316, e96_1014131313131316, ndF]; done)
      | (simp [e96, e96_101416, e96_10141316, e96_1014131316, e96_1014131313131316, ndF]; cases decide (num < 0) <;> rfl)
  · simp only [e96, e96_101416, e96_10141316, e96_1014131316, e96_1014131313131316, ndF, h 1 (by decide) (by decide), h 2 (by decide) (by decide), h 3 (by decide) (by decide), h 4 (by decide) (by decide), h 5 (by decide) (by decide), h 6 (by decide) (by decide), h 7 (by decide) (by decide), h 8 (by decide) (by decide), h 9 (by decide) (by decide), h 10 (by decide) (by decide), h 11 (by decide) (by decide), h 12 (by decide) (by decide), h 13 (by decide) (by decide), h 14 (by decide) (by decide), h 15 (by decide) (by decide), h 16 (by decide) (by decide), h 17 (by decide) (by decide), h 18 (by decide) (by decide), h 19 (by decide) (by decide), h 20 (by decide) (by decide), h 21 (by decide) (by decide), h 22 (by decide) (by decide), h 23 (by decide) (by decide), h 24 (by decide) (by decide), h 25 (by decide) (by decide), cond_false]
theorem v103 (k num : Int) (tx : Str) (ns tys args arms : List PV) (at_ : Int) : V 103 [.pv (.agg [.int .i64 k, .int .i64 num, .str tx, .lst ns, .lst tys, .lst args, .lst arms, .int .i64 at_])] = some (.pv (.int .i64 (ndF k num (args.length : Int))), []) := by
  rcases kinds k with h | h
  · rcases h with rfl | rfl | rfl | rfl | rfl | rfl | rfl | rfl | rfl | rfl | rfl | rfl | rfl | rfl | rfl | rfl | rfl | rfl | rfl | rfl | rfl | rfl | rfl | rfl | rfl
    all_goals first
      | (simp [e103, e103_101416, e103_10141316, e103_101413131316, ndF]; done)
      | (simp only [e103, e103_101416, e103_10141316, e103_101413131316, ndF]
         by_cases hn : num < 0
         · rw [decide_eq_true hn, decide_eq_false (show ¬ num ≥ 0 by omega)]; rfl
         · rw [decide_eq_false hn, decide_eq_true (show num ≥ 0 by omega)]; rfl)
  · simp only [e103, e103_101416, e103_10141316, e103_101413131316, ndF, h 1 (by decide) (by decide), h 2 (by decide) (by decide), h 3 (by decide) (by decide), h 4 (by decide) (by decide), h 5 (by decide) (by decide), h 6 (by decide) (by decide), h 7 (by decide) (by decide), h 8 (by decide) (by decide), h 9 (by decide) (by decide), h 10 (by decide) (by decide), h 11 (by decide) (by decide), h 12 (by decide) (by decide), h 13 (by decide) (by decide), h 14 (by decide) (by decide), h 15 (by decide) (by decide), h 16 (by decide) (by decide), h 17 (by decide) (by decide), h 18 (by decide) (by decide), h 19 (by decide) (by decide), h 20 (by decide) (by decide), h 21 (by decide) (by decide), h 22 (by decide) (by decide), h 23 (by decide) (by decide), h 24 (by decide) (by decide), h 25 (by decide) (by decide), cond_false]
end Go.AL.S10
