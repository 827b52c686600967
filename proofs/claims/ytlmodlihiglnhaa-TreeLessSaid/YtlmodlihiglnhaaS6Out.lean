/- A program without one declaration; the law. -/
import Derived.Test.YtlmodlihiglnhaaS6Right3
set_option linter.unusedVariables false
set_option linter.unusedSimpArgs false
set_option maxRecDepth 100000
namespace Go.AL.S6
open Go Go.AL

theorem delP_eq {y : PV} {sz : Nat} (hz : Nat.beq sz y.cells.length = true) {xs : List PV} {k : Int} (h1 : 0 ≤ k) (h2 : k < (xs.length : Int)) : delP y [.vec sz xs, .pv (.int .i64 k), .pv (.int .i64 (k + 1))] = some (.box [.int .i64 0, .int .i64 ((xs.length : Int) - 1)], [.vec (xs.take k.toNat ++ xs.drop (k.toNat + 1) ++ [y])]) := by
  have e1 : k + 1 - k = 1 := by omega
  have e2 : (k + 1).toNat = k.toNat + 1 := by omega
  show (bif Nat.beq sz y.cells.length && (decide (0 ≤ k) && (decide (k < k + 1) && decide (k + 1 ≤ (xs.length : Int)))) then some (Arg.box [.int .i64 0, .int .i64 ((xs.length : Int) - (k + 1 - k))], [Ref.vec (xs.take k.toNat ++ xs.drop (k + 1).toNat ++ List.replicate (k + 1 - k).toNat y)]) else none) = _
  rw [hz, decide_eq_true h1, decide_eq_true (show k < k + 1 by omega), decide_eq_true (show k + 1 ≤ (xs.length : Int) by omega), e1, e2]
  rfl
theorem retV_vec (sz : Nat) (xs : List PV) : retV sz (.vec sz xs, []) = some xs := by simp [retV]
theorem refV (xs : List PV) : refFits [] [0] [.vec xs] = true := nrfl rfl
theorem outV (p : Arg) (xs : List PV) : Out.v (p, [.vec xs]) 0 = xs := nrfl rfl
theorem retW_box (m : Int) (rs : List Ref) : retW (.box [.int .i64 0, .int .i64 m], rs) = some (0, m.toNat) := nrfl rfl
/-- What is left of a list. -/
def Less {α : Type} (l' l : List α) : Prop := (∀ x, x ∈ l' → x ∈ l) ∧ l'.length ≤ l.length
theorem Less.refl {α : Type} (l : List α) : Less l l := ⟨fun x h => h, Nat.le_refl _⟩
theorem Less.cut {α : Type} (l : List α) (k : Nat) : Less (l.take k ++ l.drop (k + 1)) l := by
  refine ⟨fun x hx => ?_, by simp; omega⟩
  rcases List.mem_append.1 hx with h | h
  · exact List.mem_of_mem_take h
  · exact List.mem_of_mem_drop h
theorem cut_take {xs : List PV} {y : PV} {k : Nat} (h : k < xs.length) : ((xs.take k ++ xs.drop (k + 1) ++ [y]).take ((xs.length : Int) - 1).toNat).drop 0 = xs.take k ++ xs.drop (k + 1) := by
  have e : ((xs.length : Int) - 1).toNat = (xs.take k ++ xs.drop (k + 1)).length := by simp; omega
  rw [e, List.drop_zero, List.take_left]

theorem w59 {l : List Us} (hb : l.length * 32 ≤ reachBytes) (k : Int) : ∃ l' k', V 59 [.pv (.lst (l.map Us.enc)), .pv (.int .i64 k)] = some (.pv (.tup [.lst (l'.map Us.enc), .int .i64 k']), []) ∧ Less l' l := by
  have hr : reachBytes = 140737488351232 := rfl
  have h0 : ∃ l' k', L59_1016 (l.map Us.enc) k false = some (.pv (.tup [.lst (l'.map Us.enc), .int .i64 k']), []) ∧ Less l' l := by
    rw [e59_1016]
    simp only [cond_false]
    cases decide (k < 0) with
    | true => exact ⟨l, _, rfl, .refl l⟩
    | false => exact ⟨l, _, rfl, .refl l⟩
  rw [e59]
  by_cases h1 : 0 ≤ k
  · rw [decide_eq_true (show k ≥ 0 from h1)]
    simp only [cond_true]
    by_cases h2 : k < (l.length : Int)
    · have hh : headOk 3 (l.map Us.enc) = true := by cases l <;> rfl
      have hs : small 0 (l.map Us.enc).length 32 = true := small_of (by simp only [List.length_map]; omega)
      have hw : IntKind.i64.wrap (k + 1) = k + 1 := wrap_i64 (by omega) (by omega)
      have h2' : k < (((l.map Us.enc).length : Nat) : Int) := by simpa using h2
      have hd : V 90 [.vec 3 (l.map Us.enc), .pv (.int .i64 k), .pv (.int .i64 (k + 1))] = _ := (V_prim pa (f := 90) (g := fun _ => delP (.agg [.str [], .int .i64 0, .int .i64 0])) rfl _).trans (delP_eq rfl h1 h2')
      rw [decide_eq_true h2', e59_1016, e91]
      simp only [cond_true]
      unfold cloneOutV
      rw [hh, hs]
      simp only [cond_true, Option.bind_some, retV_vec]
      rw [hw, hd]
      simp only [Option.bind_some, refV, outV, retW_box, cond_true]
      have hk : k.toNat < (l.map Us.enc).length := by omega
      rw [cut_take hk]
      rw [show (Nat.ble 0 (((((l.map Us.enc).length : Nat) : Int) - 1).toNat) && Nat.ble (((((l.map Us.enc).length : Nat) : Int) - 1).toNat) (((l.map Us.enc).take k.toNat ++ (l.map Us.enc).drop (k.toNat + 1) ++ [((.agg [.str [], .int .i64 0, .int .i64 0]) : PV)]).length)) = true from by
        rw [Bool.and_eq_true]
        refine ⟨Nat.ble_eq_true_of_le (Nat.zero_le _), Nat.ble_eq_true_of_le ?_⟩
        simp only [List.length_append, List.length_take, List.length_drop, List.length_map, List.length_cons, List.length_nil] at hk ⊢
        omega]
      simp only [cond_true]
      refine ⟨l.take k.toNat ++ l.drop (k.toNat + 1), -1, ?_, .cut l _⟩
      rw [List.map_append, List.map_take, List.map_drop]
    · rw [decide_eq_false (show ¬ k < (((l.map Us.enc).length : Nat) : Int) by simpa using h2)]
      exact h0
  · rw [decide_eq_false (show ¬ k ≥ 0 from h1)]
    simp only [cond_false]
    exact h0
theorem w60 {l : List Da} (hb : l.length * 64 ≤ reachBytes) (k : Int) : ∃ l' k', V 60 [.pv (.lst (l.map Da.enc)), .pv (.int .i64 k)] = some (.pv (.tup [.lst (l'.map Da.enc), .int .i64 k']), []) ∧ Less l' l := by
  have hr : reachBytes = 140737488351232 := rfl
  have h0 : ∃ l' k', L60_1016 (l.map Da.enc) k false = some (.pv (.tup [.lst (l'.map Da.enc), .int .i64 k']), []) ∧ Less l' l := by
    rw [e60_1016]
    simp only [cond_false]
    cases decide (k < 0) with
    | true => exact ⟨l, _, rfl, .refl l⟩
    | false => exact ⟨l, _, rfl, .refl l⟩
  rw [e60]
  by_cases h1 : 0 ≤ k
  · rw [decide_eq_true (show k ≥ 0 from h1)]
    simp only [cond_true]
    by_cases h2 : k < (l.length : Int)
    · have hh : headOk 3 (l.map Da.enc) = true := by cases l <;> rfl
      have hs : small 0 (l.map Da.enc).length 64 = true := small_of (by simp only [List.length_map]; omega)
      have hw : IntKind.i64.wrap (k + 1) = k + 1 := wrap_i64 (by omega) (by omega)
      have h2' : k < (((l.map Da.enc).length : Nat) : Int) := by simpa using h2
      have hd : V 92 [.vec 3 (l.map Da.enc), .pv (.int .i64 k), .pv (.int .i64 (k + 1))] = _ := (V_prim pa (f := 92) (g := fun _ => delP (.agg [.str [], .lst [], .lst []])) rfl _).trans (delP_eq rfl h1 h2')
      rw [decide_eq_true h2', e60_1016, e93]
      simp only [cond_true]
      unfold cloneOutV
      rw [hh, hs]
      simp only [cond_true, Option.bind_some, retV_vec]
      rw [hw, hd]
      simp only [Option.bind_some, refV, outV, retW_box, cond_true]
      have hk : k.toNat < (l.map Da.enc).length := by omega
      rw [cut_take hk]
      rw [show (Nat.ble 0 (((((l.map Da.enc).length : Nat) : Int) - 1).toNat) && Nat.ble (((((l.map Da.enc).length : Nat) : Int) - 1).toNat) (((l.map Da.enc).take k.toNat ++ (l.map Da.enc).drop (k.toNat + 1) ++ [((.agg [.str [], .lst [], .lst []]) : PV)]).length)) = true from by
        rw [Bool.and_eq_true]
        refine ⟨Nat.ble_eq_true_of_le (Nat.zero_le _), Nat.ble_eq_true_of_le ?_⟩
        simp only [List.length_append, List.length_take, List.length_drop, List.length_map, List.length_cons, List.length_nil] at hk ⊢
        omega]
      simp only [cond_true]
      refine ⟨l.take k.toNat ++ l.drop (k.toNat + 1), -1, ?_, .cut l _⟩
      rw [List.map_append, List.map_take, List.map_drop]
    · rw [decide_eq_false (show ¬ k < (((l.map Da.enc).length : Nat) : Int) by simpa using h2)]
      exact h0
  · rw [decide_eq_false (show ¬ k ≥ 0 from h1)]
    simp only [cond_false]
    exact h0
theorem w61 {l : List Tr} (hb : l.length * 40 ≤ reachBytes) (k : Int) : ∃ l' k', V 61 [.pv (.lst (l.map eT)), .pv (.int .i64 k)] = some (.pv (.tup [.lst (l'.map eT), .int .i64 k']), []) ∧ Less l' l := by
  have hr : reachBytes = 140737488351232 := rfl
  have h0 : ∃ l' k', L61_1016 (l.map eT) k false = some (.pv (.tup [.lst (l'.map eT), .int .i64 k']), []) ∧ Less l' l := by
    rw [e61_1016]
    simp only [cond_false]
    cases decide (k < 0) with
    | true => exact ⟨l, _, rfl, .refl l⟩
    | false => exact ⟨l, _, rfl, .refl l⟩
  rw [e61]
  by_cases h1 : 0 ≤ k
  · rw [decide_eq_true (show k ≥ 0 from h1)]
    simp only [cond_true]
    by_cases h2 : k < (l.length : Int)
    · have hh : headOk 2 (l.map eT) = true := by cases l <;> rfl
      have hs : small 0 (l.map eT).length 40 = true := small_of (by simp only [List.length_map]; omega)
      have hw : IntKind.i64.wrap (k + 1) = k + 1 := wrap_i64 (by omega) (by omega)
      have h2' : k < (((l.map eT).length : Nat) : Int) := by simpa using h2
      have hd : V 94 [.vec 2 (l.map eT), .pv (.int .i64 k), .pv (.int .i64 (k + 1))] = _ := (V_prim pa (f := 94) (g := fun _ => delP (.agg [.str [], .lst []])) rfl _).trans (delP_eq rfl h1 h2')
      rw [decide_eq_true h2', e61_1016, e95]
      simp only [cond_true]
      unfold cloneOutV
      rw [hh, hs]
      simp only [cond_true, Option.bind_some, retV_vec]
      rw [hw, hd]
      simp only [Option.bind_some, refV, outV, retW_box, cond_true]
      have hk : k.toNat < (l.map eT).length := by omega
      rw [cut_take hk]
      rw [show (Nat.ble 0 (((((l.map eT).length : Nat) : Int) - 1).toNat) && Nat.ble (((((l.map eT).length : Nat) : Int) - 1).toNat) (((l.map eT).take k.toNat ++ (l.map eT).drop (k.toNat + 1) ++ [((.agg [.str [], .lst []]) : PV)]).length)) = true from by
        rw [Bool.and_eq_true]
        refine ⟨Nat.ble_eq_true_of_le (Nat.zero_le _), Nat.ble_eq_true_of_le ?_⟩
        simp only [List.length_append, List.length_take, List.length_drop, List.length_map, List.length_cons, List.length_nil] at hk ⊢
        omega]
      simp only [cond_true]
      refine ⟨l.take k.toNat ++ l.drop (k.toNat + 1), -1, ?_, .cut l _⟩
      rw [List.map_append, List.map_take, List.map_drop]
    · rw [decide_eq_false (show ¬ k < (((l.map eT).length : Nat) : Int) by simpa using h2)]
      exact h0
  · rw [decide_eq_false (show ¬ k ≥ 0 from h1)]
    simp only [cond_false]
    exact h0
theorem w62 {l : List Im} (hb : l.length * 56 ≤ reachBytes) (k : Int) : ∃ l' k', V 62 [.pv (.lst (l.map Im.enc)), .pv (.int .i64 k)] = some (.pv (.tup [.lst (l'.map Im.enc), .int .i64 k']), []) ∧ Less l' l := by
  have hr : reachBytes = 140737488351232 := rfl
  have h0 : ∃ l' k', L62_1016 (l.map Im.enc) k false = some (.pv (.tup [.lst (l'.map Im.enc), .int .i64 k']), []) ∧ Less l' l := by
    rw [e62_1016]
    simp only [cond_false]
    cases decide (k < 0) with
    | true => exact ⟨l, _, rfl, .refl l⟩
    | false => exact ⟨l, _, rfl, .refl l⟩
  rw [e62]
  by_cases h1 : 0 ≤ k
  · rw [decide_eq_true (show k ≥ 0 from h1)]
    simp only [cond_true]
    by_cases h2 : k < (l.length : Int)
    · have hh : headOk 3 (l.map Im.enc) = true := by cases l <;> rfl
      have hs : small 0 (l.map Im.enc).length 56 = true := small_of (by simp only [List.length_map]; omega)
      have hw : IntKind.i64.wrap (k + 1) = k + 1 := wrap_i64 (by omega) (by omega)
      have h2' : k < (((l.map Im.enc).length : Nat) : Int) := by simpa using h2
      have hd : V 96 [.vec 3 (l.map Im.enc), .pv (.int .i64 k), .pv (.int .i64 (k + 1))] = _ := (V_prim pa (f := 96) (g := fun _ => delP (.agg [.str [], .str [], .lst []])) rfl _).trans (delP_eq rfl h1 h2')
      rw [decide_eq_true h2', e62_1016, e97]
      simp only [cond_true]
      unfold cloneOutV
      rw [hh, hs]
      simp only [cond_true, Option.bind_some, retV_vec]
      rw [hw, hd]
      simp only [Option.bind_some, refV, outV, retW_box, cond_true]
      have hk : k.toNat < (l.map Im.enc).length := by omega
      rw [cut_take hk]
      rw [show (Nat.ble 0 (((((l.map Im.enc).length : Nat) : Int) - 1).toNat) && Nat.ble (((((l.map Im.enc).length : Nat) : Int) - 1).toNat) (((l.map Im.enc).take k.toNat ++ (l.map Im.enc).drop (k.toNat + 1) ++ [((.agg [.str [], .str [], .lst []]) : PV)]).length)) = true from by
        rw [Bool.and_eq_true]
        refine ⟨Nat.ble_eq_true_of_le (Nat.zero_le _), Nat.ble_eq_true_of_le ?_⟩
        simp only [List.length_append, List.length_take, List.length_drop, List.length_map, List.length_cons, List.length_nil] at hk ⊢
        omega]
      simp only [cond_true]
      refine ⟨l.take k.toNat ++ l.drop (k.toNat + 1), -1, ?_, .cut l _⟩
      rw [List.map_append, List.map_take, List.map_drop]
    · rw [decide_eq_false (show ¬ k < (((l.map Im.enc).length : Nat) : Int) by simpa using h2)]
      exact h0
  · rw [decide_eq_false (show ¬ k ≥ 0 from h1)]
    simp only [cond_false]
    exact h0
theorem w63 {l : List Fn} (hb : l.length * 272 ≤ reachBytes) (k : Int) : ∃ l' k', V 63 [.pv (.lst (l.map Fn.enc)), .pv (.int .i64 k)] = some (.pv (.tup [.lst (l'.map Fn.enc), .int .i64 k']), []) ∧ Less l' l := by
  have hr : reachBytes = 140737488351232 := rfl
  have h0 : ∃ l' k', L63_1016 (l.map Fn.enc) k false = some (.pv (.tup [.lst (l'.map Fn.enc), .int .i64 k']), []) ∧ Less l' l := by
    rw [e63_1016]
    simp only [cond_false]
    cases decide (k < 0) with
    | true => exact ⟨l, _, rfl, .refl l⟩
    | false => exact ⟨l, _, rfl, .refl l⟩
  rw [e63]
  by_cases h1 : 0 ≤ k
  · rw [decide_eq_true (show k ≥ 0 from h1)]
    simp only [cond_true]
    by_cases h2 : k < (l.length : Int)
    · have hh : headOk 15 (l.map Fn.enc) = true := by cases l <;> rfl
      have hs : small 0 (l.map Fn.enc).length 272 = true := small_of (by simp only [List.length_map]; omega)
      have hw : IntKind.i64.wrap (k + 1) = k + 1 := wrap_i64 (by omega) (by omega)
      have h2' : k < (((l.map Fn.enc).length : Nat) : Int) := by simpa using h2
      have hd : V 98 [.vec 15 (l.map Fn.enc), .pv (.int .i64 k), .pv (.int .i64 (k + 1))] = _ := (V_prim pa (f := 98) (g := fun _ => delP (.agg [.str [], .lst [], .lst [], .lst [], .int .i64 0, .str [], .lst [], .int .i64 0, .int .i64 0, .str [], .lst [], .lst [], .lst [], .lst [], .int .i64 0])) rfl _).trans (delP_eq rfl h1 h2')
      rw [decide_eq_true h2', e63_1016, e99]
      simp only [cond_true]
      unfold cloneOutV
      rw [hh, hs]
      simp only [cond_true, Option.bind_some, retV_vec]
      rw [hw, hd]
      simp only [Option.bind_some, refV, outV, retW_box, cond_true]
      have hk : k.toNat < (l.map Fn.enc).length := by omega
      rw [cut_take hk]
      rw [show (Nat.ble 0 (((((l.map Fn.enc).length : Nat) : Int) - 1).toNat) && Nat.ble (((((l.map Fn.enc).length : Nat) : Int) - 1).toNat) (((l.map Fn.enc).take k.toNat ++ (l.map Fn.enc).drop (k.toNat + 1) ++ [((.agg [.str [], .lst [], .lst [], .lst [], .int .i64 0, .str [], .lst [], .int .i64 0, .int .i64 0, .str [], .lst [], .lst [], .lst [], .lst [], .int .i64 0]) : PV)]).length)) = true from by
        rw [Bool.and_eq_true]
        refine ⟨Nat.ble_eq_true_of_le (Nat.zero_le _), Nat.ble_eq_true_of_le ?_⟩
        simp only [List.length_append, List.length_take, List.length_drop, List.length_map, List.length_cons, List.length_nil] at hk ⊢
        omega]
      simp only [cond_true]
      refine ⟨l.take k.toNat ++ l.drop (k.toNat + 1), -1, ?_, .cut l _⟩
      rw [List.map_append, List.map_take, List.map_drop]
    · rw [decide_eq_false (show ¬ k < (((l.map Fn.enc).length : Nat) : Int) by simpa using h2)]
      exact h0
  · rw [decide_eq_false (show ¬ k ≥ 0 from h1)]
    simp only [cond_false]
    exact h0
theorem w64 {l : List Ac} (hb : l.length * 248 ≤ reachBytes) (k : Int) : ∃ l' k', V 64 [.pv (.lst (l.map Ac.enc)), .pv (.int .i64 k)] = some (.pv (.tup [.lst (l'.map Ac.enc), .int .i64 k']), []) ∧ Less l' l := by
  have hr : reachBytes = 140737488351232 := rfl
  have h0 : ∃ l' k', L64_1016 (l.map Ac.enc) k false = some (.pv (.tup [.lst (l'.map Ac.enc), .int .i64 k']), []) ∧ Less l' l := by
    rw [e64_1016]
    simp only [cond_false]
    cases decide (k < 0) with
    | true => exact ⟨l, _, rfl, .refl l⟩
    | false => exact ⟨l, _, rfl, .refl l⟩
  rw [e64]
  by_cases h1 : 0 ≤ k
  · rw [decide_eq_true (show k ≥ 0 from h1)]
    simp only [cond_true]
    by_cases h2 : k < (l.length : Int)
    · have hh : headOk 14 (l.map Ac.enc) = true := by cases l <;> rfl
      have hs : small 0 (l.map Ac.enc).length 248 = true := small_of (by simp only [List.length_map]; omega)
      have hw : IntKind.i64.wrap (k + 1) = k + 1 := wrap_i64 (by omega) (by omega)
      have h2' : k < (((l.map Ac.enc).length : Nat) : Int) := by simpa using h2
      have hd : V 100 [.vec 14 (l.map Ac.enc), .pv (.int .i64 k), .pv (.int .i64 (k + 1))] = _ := (V_prim pa (f := 100) (g := fun _ => delP (.agg [.str [], .lst [], .lst [], .int .i64 0, .str [], .lst [], .int .i64 0, .int .i64 0, .str [], .lst [], .lst [], .lst [], .lst [], .int .i64 0])) rfl _).trans (delP_eq rfl h1 h2')
      rw [decide_eq_true h2', e64_1016, e101]
      simp only [cond_true]
      unfold cloneOutV
      rw [hh, hs]
      simp only [cond_true, Option.bind_some, retV_vec]
      rw [hw, hd]
      simp only [Option.bind_some, refV, outV, retW_box, cond_true]
      have hk : k.toNat < (l.map Ac.enc).length := by omega
      rw [cut_take hk]
      rw [show (Nat.ble 0 (((((l.map Ac.enc).length : Nat) : Int) - 1).toNat) && Nat.ble (((((l.map Ac.enc).length : Nat) : Int) - 1).toNat) (((l.map Ac.enc).take k.toNat ++ (l.map Ac.enc).drop (k.toNat + 1) ++ [((.agg [.str [], .lst [], .lst [], .int .i64 0, .str [], .lst [], .int .i64 0, .int .i64 0, .str [], .lst [], .lst [], .lst [], .lst [], .int .i64 0]) : PV)]).length)) = true from by
        rw [Bool.and_eq_true]
        refine ⟨Nat.ble_eq_true_of_le (Nat.zero_le _), Nat.ble_eq_true_of_le ?_⟩
        simp only [List.length_append, List.length_take, List.length_drop, List.length_map, List.length_cons, List.length_nil] at hk ⊢
        omega]
      simp only [cond_true]
      refine ⟨l.take k.toNat ++ l.drop (k.toNat + 1), -1, ?_, .cut l _⟩
      rw [List.map_append, List.map_take, List.map_drop]
    · rw [decide_eq_false (show ¬ k < (((l.map Ac.enc).length : Nat) : Int) by simpa using h2)]
      exact h0
  · rw [decide_eq_false (show ¬ k ≥ 0 from h1)]
    simp only [cond_false]
    exact h0
theorem v14 : V 14 [] = some (.pv (.bool true), []) := (V_A pa 14 []).le 60 _ (by kernel_rfl)
end Go.AL.S6
