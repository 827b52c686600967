/- Talks: ways and rings. -/
import Derived.Test.YtofjejdlggmcjaaS1ERing
import Derived.Test.YtofjejdlggmcjaaS1Honda
set_option linter.unusedVariables false
set_option linter.unusedSimpArgs false
namespace Go.AL.S1
open Go Go.AL

theorem intc_fits (n : Int) : (Nat.blt 0 (eInt n).cells.length && (Sh.int .i64).fits ((eInt n).cl 0)) = true := nrfl rfl
theorem intc_set (n : Int) : (Nat.blt 0 (eInt n).cells.length && true) = true := nrfl rfl
theorem intc_i (n : Int) : ((eInt n).cl 0).toInt = n := nrfl rfl
theorem intc_eta (m n : Int) : (eInt m).setc 0 (.int .i64 n) = eInt n := nrfl rfl
theorem int_eta (n : Int) : PV.int .i64 n = eInt n := nrfl rfl
def eB (b : Bool) : PV := .bool b
theorem bc_fits (b : Bool) : (Nat.blt 0 (eB b).cells.length && Sh.bool.fits ((eB b).cl 0)) = true := nrfl rfl
theorem bc_set (b : Bool) : (Nat.blt 0 (eB b).cells.length && true) = true := nrfl rfl
theorem bc_b (b : Bool) : ((eB b).cl 0).toBool = b := nrfl rfl
theorem bc_eta (a b : Bool) : (eB a).setc 0 (.bool b) = eB b := nrfl rfl
theorem get_map {α β : Type} {f : α → β} {xs : List α} {i : Nat} {x : α} (h : xs[i]? = some x) : (xs.map f)[i]? = some (f x) := by simp [h]

/-! #### Reverse -/
theorem l109 : ∀ (n : Nat) (i j : Int) (xs : List Int), 0 ≤ i → i ≤ 200 → j < xs.length → -1 ≤ j → xs.length ≤ 100 → (j - i).toNat ≤ n →
    ∃ ys : List Int, ys.length = xs.length ∧ L109_14 i j (xs.map eInt) = some (.pv (.tup []), [.vec (ys.map eInt)])
  | n, i, j, xs, h0, hi2, h1, h2, h3, hn => by
    by_cases hij : i < j
    · cases n with
      | zero => omega
      | succ n =>
        obtain ⟨y, hy, _⟩ := get_int (xs := xs) (i := j) (by omega) h1
        obtain ⟨x, hx, _⟩ := get_int (xs := xs) (i := i) h0 (by omega)
        obtain ⟨ys, g1, g2⟩ := l109 n (i + 1) (j - 1) ((xs.set i.toNat y).set j.toNat x) (by omega) (by omega) (by simp; omega) (by omega) (by simpa using h3) (by omega)
        refine ⟨ys, by simpa using g1, ?_⟩
        have hs : (xs.set i.toNat y)[j.toNat]? = some y := by rw [List.getElem?_set_ne (by omega)]; exact hy
        rw [e109_14]
        simp only [dT hij, cond_true, List.length_map, dT (show 0 ≤ j by omega), dT h1, dT h0, dT (show i < (xs.length : Int) by omega), Bool.and_self, get_map (f := eInt) hy, get_map (f := eInt) hx, Option.bind_some, intc_fits, intc_set, intc_i, intc_eta, ← List.map_set, get_map (f := eInt) hs, List.length_set, wrap_i64 (show -9223372036854775808 ≤ i + 1 by omega) (by omega), wrap_i64 (show -9223372036854775808 ≤ j - 1 by omega) (by omega)]
        exact g2
    · refine ⟨xs, rfl, ?_⟩
      rw [e109_14]
      simp only [dF hij, cond_false]
theorem v109 (xs : List Int) (h : xs.length ≤ 100) : ∃ ys : List Int, ys.length = xs.length ∧ V 109 [.vec 1 (xs.map eInt)] = some (.pv (.tup []), [.vec (ys.map eInt)]) := by
  obtain ⟨ys, g1, g2⟩ := l109 (xs.length + 1) 0 (xs.length - 1) xs (by omega) (by omega) (by omega) (by omega) h (by omega)
  refine ⟨ys, g1, ?_⟩
  have : ((xs.map eInt).all fun x => Nat.beq x.cells.length 1) = true := by
    rw [List.all_eq_true]
    intro x hx
    obtain ⟨n, _, rfl⟩ := List.mem_map.1 hx
    rfl
  rw [e109, this]
  simp only [Bool.and_self, cond_true, List.length_map, wrap_i64 (show -9223372036854775808 ≤ (xs.length : Int) - 1 by omega) (by omega)]
  exact g2

/-! #### The search -/
structure Tree (ls : List Line) (m from_ : Nat) (by_ : List Int) (seen : List Bool) (rk : Nat → Nat) : Prop where
  ns : seen.length = m
  nb : by_.length = m
  root : seen[from_]? = some true
  rkle : ∀ v, seen[v]? = some true → rk v + seen.count false ≤ m
  par : ∀ v, seen[v]? = some true → v ≠ from_ → ∃ i x q, by_[v]? = some i ∧ 0 ≤ i ∧ ls[i.toNat]? = some x ∧ Ends x v q ∧ seen[q]? = some true ∧ rk q < rk v

/-- 'at', 'k': of at, the lines ahead of k have been looked at. -/
structure Bfs (ls : List Line) (m from_ but at_ k : Nat) (row : List Nat) (by_ : List Int) (seen : List Bool) : Prop where
  tree : ∃ rk, Tree ls m from_ by_ seen rk
  rowS : ∀ q, q ∈ row → seen[q]? = some true
  atS : seen[at_]? = some true
  done : ∀ v, seen[v]? = some true → v ∉ row → ∀ i x q, ls[i]? = some x → i ≠ but → Ends x v q → (v = at_ → i < k) → seen[q]? = some true
  bd : 2 * seen.count false + row.length ≤ 2 * m

theorem wf_other {ls : List Line} {ws : List (List Deed)} (hwf : WF ls ws) {x : Line} (hx : x ∈ ls) {p : Nat} (hp : x.1 = p ∨ x.2 = p) : ∃ q : Nat, Ends x p q ∧ q < ws.length ∧ q ≠ p ∧ IntKind.i64.wrap (IntKind.i64.wrap (x.1 + x.2) - (p : Int)) = (q : Int) := by
  obtain ⟨f1, f2, f3, f4, f5⟩ := hwf.line x hx
  have hnw := hwf.nw
  rw [wrap_i64 (n := x.1 + x.2) (by omega) (by omega)]
  rcases hp with h | h
  · refine ⟨x.2.toNat, .inl ⟨h, by omega⟩, by omega, by omega, ?_⟩
    rw [wrap_i64 (by omega) (by omega)]; omega
  · refine ⟨x.1.toNat, .inr ⟨by omega, h⟩, by omega, by omega, ?_⟩
    rw [wrap_i64 (by omega) (by omega)]; omega
theorem ends_inj {x : Line} {p q r : Nat} (h : Ends x p q) (h' : Ends x p r) : q = r := by
  rcases h with ⟨a, b⟩ | ⟨a, b⟩ <;> rcases h' with ⟨c, d⟩ | ⟨c, d⟩ <;> omega

/-- One more is seen. -/
theorem Bfs.push {ls : List Line} {ws : List (List Deed)} (hwf : WF ls ws) {from_ but at_ k : Nat} {row : List Nat} {by_ : List Int} {seen : List Bool} (h : Bfs ls ws.length from_ but at_ k row by_ seen) {x : Line} (hx : ls[k]? = some x) {q : Nat} (hE : Ends x at_ q) (hq : seen[q]? = some false) :
    Bfs ls ws.length from_ but at_ (k + 1) (row ++ [q]) (by_.set q k) (seen.set q true) ∧ 2 * (seen.set q true).count false + (row ++ [q]).length ≤ 2 * seen.count false + row.length := by
  obtain ⟨rk, ht⟩ := h.tree
  obtain ⟨c1, c2⟩ := count_set hq
  have hql : q < seen.length := (List.getElem?_eq_some_iff.1 hq).1
  have hqb : q < by_.length := by rw [ht.nb, ← ht.ns]; exact hql
  have hself : (seen.set q true)[q]? = some true := by rw [List.getElem?_set_self hql]
  have hkeep : ∀ v, seen[v]? = some true → (seen.set q true)[v]? = some true := fun v hv => by
    by_cases e : q = v
    · subst e; exact hself
    · rw [List.getElem?_set_ne e]; exact hv
  have hback : ∀ v, (seen.set q true)[v]? = some true → v ≠ q → seen[v]? = some true := fun v hv e => by
    rw [List.getElem?_set_ne (Ne.symm e)] at hv; exact hv
  have hne : ∀ v, seen[v]? = some true → v ≠ q := fun v hv e => by subst e; rw [hq] at hv; cases hv
  refine ⟨⟨⟨fun v => if v = q then rk at_ + 1 else rk v, ⟨by simp [ht.ns], by simp [ht.nb], hkeep _ ht.root, fun v hv => ?_, fun v hv hvf => ?_⟩⟩, fun v hv => ?_, hkeep _ h.atS, fun v hv hvr i y u e1 e2 e3 e4 => ?_, ?_⟩, ?_⟩
  · by_cases e : v = q
    · simp only [e, if_pos]
      have := ht.rkle _ h.atS
      omega
    · simp only [if_neg e]
      have := ht.rkle _ (hback v hv e)
      omega
  · by_cases e : v = q
    · subst e
      refine ⟨k, x, at_, by rw [List.getElem?_set_self hqb], by omega, by simpa using hx, hE.symm, hkeep _ h.atS, ?_⟩
      simp only [if_pos, if_neg (hne _ h.atS)]
      omega
    · obtain ⟨i, y, u, e1, e2, e3, e4, e5, e6⟩ := ht.par v (hback v hv e) hvf
      refine ⟨i, y, u, by rw [List.getElem?_set_ne (Ne.symm e)]; exact e1, e2, e3, e4, hkeep _ e5, ?_⟩
      simp only [if_neg e, if_neg (hne _ e5)]
      exact e6
  · rcases List.mem_append.1 hv with hv | hv
    · exact hkeep _ (h.rowS v hv)
    · rw [List.mem_singleton.1 hv]; exact hself
  · have hvq : v ≠ q := fun e => hvr (by simp [e])
    have hv' := hback v hv hvq
    by_cases hva : v = at_ ∧ i = k
    · obtain ⟨rfl, rfl⟩ := hva
      rw [hx] at e1
      obtain rfl := Option.some.inj e1
      rw [← ends_inj hE e3]; exact hself
    · exact hkeep _ (h.done v hv' (fun hm => hvr (by simp [hm])) i y u e1 e2 e3 fun hva' => by have := e4 hva'; omega)
  · have := h.bd
    simp only [List.length_append, List.length_cons, List.length_nil]
    omega
  · simp only [List.length_append, List.length_cons, List.length_nil]
    omega
theorem Bfs.skip {ls : List Line} {m from_ but at_ k : Nat} {row : List Nat} {by_ : List Int} {seen : List Bool} (h : Bfs ls m from_ but at_ k row by_ seen) {x : Line} (hx : ls[k]? = some x) (hk : k = but ∨ ∀ q, Ends x at_ q → seen[q]? = some true) : Bfs ls m from_ but at_ (k + 1) row by_ seen := by
  refine ⟨h.tree, h.rowS, h.atS, fun v hv hvr i y u e1 e2 e3 e4 => ?_, h.bd⟩
  by_cases hva : v = at_ ∧ i = k
  · obtain ⟨rfl, rfl⟩ := hva
    rw [hx] at e1
    obtain rfl := Option.some.inj e1
    rcases hk with hk | hk
    · exact absurd hk e2
    · exact hk u e3
  · exact h.done v hv hvr i y u e1 e2 e3 fun hva' => by have := e4 hva'; omega

theorem l96i {ls : List Line} {ws : List (List Deed)} (hwf : WF ls ws) {from_ to_ but at_ : Nat} : ∀ (l : List Line) (k : Nat) (row : List Nat) (by_ : List Int) (seen : List Bool), ls.drop k = l → Bfs ls ws.length from_ but at_ k row by_ seen →
    ∃ row' by' seen', L96_111111045141114 from_ to_ but (row.map eNat) at_ (ls.map eLine) k (ws.map eDs) (by_.map eInt) (seen.map eB) = L96_11111104 from_ to_ but (row'.map eNat) (ls.map eLine) (ws.map eDs) (by'.map eInt) (seen'.map eB) ∧
      Bfs ls ws.length from_ but at_ ls.length row' by' seen' ∧ 2 * seen'.count false + row'.length ≤ 2 * seen.count false + row.length
  | [], k, row, by_, seen, h, hB => by
    refine ⟨row, by_, seen, ?_, ⟨hB.tree, hB.rowS, hB.atS, fun v hv hvr i y u e1 e2 e3 e4 => ?_, hB.bd⟩, Nat.le_refl _⟩
    · rw [e96_111111045141114, endK_map h]
      rfl
    · refine hB.done v hv hvr i y u e1 e2 e3 fun _ => ?_
      have h1 := (List.getElem?_eq_some_iff.1 e1).1
      have h2 := congrArg List.length h
      simp at h2
      omega
  | x :: l, k, row, by_, seen, h, hB => by
    have hls : ls.length ≤ maxLen := by have := hwf.nl; simp [maxLen]; omega
    have hnw := hwf.nw
    have hnl := hwf.nl
    have A := atK_map (f := eLine) h hls
    have A' := atK h hls
    have hx := A'.get'
    obtain ⟨rk, ht⟩ := hB.tree
    have skip : Bfs ls ws.length from_ but at_ (k + 1) row by_ seen → ∃ row' by' seen', L96_111111045141114 from_ to_ but (row.map eNat) at_ (ls.map eLine) ((k + 1 : Nat) : Int) (ws.map eDs) (by_.map eInt) (seen.map eB) = L96_11111104 from_ to_ but (row'.map eNat) (ls.map eLine) (ws.map eDs) (by'.map eInt) (seen'.map eB) ∧
      Bfs ls ws.length from_ but at_ ls.length row' by' seen' ∧ 2 * seen'.count false + row'.length ≤ 2 * seen.count false + row.length := fun hB' => l96i hwf l (k + 1) row by_ seen A'.drop hB'
    have heq : L96_111111045141114 from_ to_ but (row.map eNat) at_ (ls.map eLine) k (ws.map eDs) (by_.map eInt) (seen.map eB) = _ := e96_111111045141114 _ _ _ _ _ _ _ _ _ _
    simp only [A.lt, A.ge, A.get, A.next, cond_true, Option.bind_some] at heq
    simp only [cond_true, line_fits, line_a, line_b] at heq
    by_cases hkb : k = but
    · rw [heq, show ((k : Int) == (but : Int)) = true from by simp [hkb]]
      exact skip (hB.skip hx (.inl hkb))
    rw [show ((k : Int) == (but : Int)) = false from by simp; omega] at heq
    simp only [cond_false] at heq
    by_cases hp : x.1 = (at_ : Int) ∨ x.2 = (at_ : Int)
    · obtain ⟨q, hE, hq, hqp, hwr⟩ := wf_other hwf (List.mem_of_getElem? hx) hp
      have hqs : q < seen.length := by rw [ht.ns]; exact hq
      have hqb : q < by_.length := by rw [ht.nb]; exact hq
      obtain ⟨b, hb⟩ : ∃ b, seen[q]? = some b := ⟨_, List.getElem?_eq_getElem hqs⟩
      obtain ⟨y, hy⟩ : ∃ b, by_[q]? = some b := ⟨_, List.getElem?_eq_getElem hqb⟩
      have hb' : (seen.map eB)[(q : Int).toNat]? = some (eB b) := by rw [Int.toNat_natCast]; exact get_map hb
      have hy' : (by_.map eInt)[(q : Int).toNat]? = some (eInt y) := by rw [Int.toNat_natCast]; exact get_map hy
      have hsl : (q : Int) < ((seen.length : Nat) : Int) := by omega
      have hbl : (q : Int) < ((by_.length : Nat) : Int) := by omega
      simp only [hwr, List.length_map, dT (Int.natCast_nonneg q), dT hsl, Bool.and_self, cond_true, hb', Option.bind_some, bc_fits, bc_b] at heq
      have heq2 : L96_111111045141114 from_ to_ but (row.map eNat) at_ (ls.map eLine) k (ws.map eDs) (by_.map eInt) (seen.map eB) = bif b then L96_111111045141114 from_ to_ but (row.map eNat) at_ (ls.map eLine) ((k + 1 : Nat) : Int) (ws.map eDs) (by_.map eInt) (seen.map eB) else L96_111111045141114511041116 from_ to_ but (row.map eNat) at_ k q (ls.map eLine) (ws.map eDs) (by_.map eInt) (seen.map eB) := by
        rw [heq]
        by_cases h1 : x.1 = (at_ : Int)
        · rw [show (x.1 != (at_ : Int)) = false from by simpa using h1]
          rfl
        · have h2 : x.2 = (at_ : Int) := by omega
          rw [show (x.1 != (at_ : Int)) = true from by simpa using h1, show (x.2 != (at_ : Int)) = false from by simpa using h2]
          rfl
      rw [heq2]
      cases b with
      | true => exact skip (hB.skip hx (.inr fun u hu => by rw [← ends_inj hE hu]; exact hb))
      | false =>
        obtain ⟨hB', hm⟩ := hB.push hwf hx hE hb
        obtain ⟨row', by', seen', g1, g2, g3⟩ := l96i hwf (to_ := to_) l (k + 1) _ _ _ A'.drop hB'
        refine ⟨row', by', seen', ?_, g2, Nat.le_trans g3 hm⟩
        have hrl := hB.bd
        simp only [cond_false]
        rw [e96_111111045141114511041116]
        simp only [List.length_map, dT (Int.natCast_nonneg q), dT hsl, dT hbl, Bool.and_self, cond_true, get_map (f := eB) hb, get_map (f := eInt) hy, Option.bind_some, bc_set, intc_set, bc_eta, intc_eta, small_of (show (row.length + 1) * 8 ≤ 141000000000000 by omega), Int.toNat_natCast, ← List.map_set, A'.next]
        rw [← g1]
        simp [eNat]
    · rw [heq, show (x.1 != (at_ : Int)) = true from by simp; omega, show (x.2 != (at_ : Int)) = true from by simp; omega]
      refine skip (hB.skip hx (.inr fun u hu => ?_))
      rcases hu with ⟨u1, u2⟩ | ⟨u1, u2⟩ <;> omega

theorem l96o {ls : List Line} {ws : List (List Deed)} (hwf : WF ls ws) {from_ to_ but : Nat} (hto : to_ < ws.length) : ∀ (n : Nat) (row : List Nat) (by_ : List Int) (seen : List Bool) (at_ : Nat), 2 * seen.count false + row.length ≤ n → Bfs ls ws.length from_ but at_ ls.length row by_ seen →
    ∃ by' seen', L96_11111104 from_ to_ but (row.map eNat) (ls.map eLine) (ws.map eDs) (by_.map eInt) (seen.map eB) = L96_11111116 from_ to_ (ls.map eLine) (ws.map eDs) (by'.map eInt) (seen'.map eB) ∧
      (∃ rk, Tree ls ws.length from_ by' seen' rk) ∧ (seen'[to_]? = some false → Closed ls but fun v => seen'[v]? = some true)
  | n, [], by_, seen, at_, hn, hB => by
    refine ⟨by_, seen, ?_, hB.tree, fun _ i x p q h1 h2 h3 h4 => hB.done p h4 (by simp) i x q h1 h2 h3 fun _ => (List.getElem?_eq_some_iff.1 h1).1⟩
    rw [e96_11111104]
    simp
  | n, at' :: row, by_, seen, at_, hn, hB => by
    obtain ⟨rk, ht⟩ := hB.tree
    have hts : to_ < seen.length := by rw [ht.ns]; exact hto
    obtain ⟨b, hb⟩ : ∃ b, seen[to_]? = some b := ⟨_, List.getElem?_eq_getElem hts⟩
    have hb' : (seen.map eB)[(to_ : Int).toNat]? = some (eB b) := by rw [Int.toNat_natCast]; exact get_map hb
    have heq : L96_11111104 from_ to_ but ((at' :: row).map eNat) (ls.map eLine) (ws.map eDs) (by_.map eInt) (seen.map eB) = bif !b then L96_111111045141114 from_ to_ but (row.map eNat) at' (ls.map eLine) ((0 : Nat) : Int) (ws.map eDs) (by_.map eInt) (seen.map eB) else L96_11111116 from_ to_ (ls.map eLine) (ws.map eDs) (by_.map eInt) (seen.map eB) := by
      rw [e96_11111104]
      simp only [List.length_map, List.length_cons, dT (show (((row.length + 1 : Nat) : Int) > 0) by omega), dT (Int.natCast_nonneg to_), dT (show (to_ : Int) < ((seen.length : Nat) : Int) by omega), Bool.and_self, cond_true, hb', Option.bind_some, bc_fits, bc_b, List.map_cons, show (0 : Int).toNat = 0 from rfl, show (1 : Int).toNat = 1 from rfl, List.getElem?_cons_zero, nat_fits, nat_i, show headOk 1 (eNat at' :: row.map eNat) = true from rfl, dT (show (0 : Int) ≤ 1 by omega), dT (show (1 : Int) ≤ ((row.length + 1 : Nat) : Int) by omega), List.drop_succ_cons, List.drop_zero]
      rfl
    cases b with
    | true =>
      rw [heq]
      refine ⟨by_, seen, rfl, ⟨rk, ht⟩, fun h => ?_⟩
      rw [hb] at h; cases h
    | false =>
      have hB' : Bfs ls ws.length from_ but at' 0 row by_ seen := ⟨⟨rk, ht⟩, fun q hq => hB.rowS q (by simp [hq]), hB.rowS at' (by simp), fun v hv hvr i x q e1 e2 e3 e4 => by
        by_cases hva : v = at'
        · have := e4 hva; omega
        · exact hB.done v hv (by simp [hva, hvr]) i x q e1 e2 e3 fun _ => (List.getElem?_eq_some_iff.1 e1).1, by have := hB.bd; simp only [List.length_cons] at this; omega⟩
      obtain ⟨row', by', seen', g1, g2, g3⟩ := l96i hwf (to_ := to_) ls 0 row by_ seen rfl hB'
      simp only [List.length_cons] at hn
      cases n with
      | zero => omega
      | succ n =>
        obtain ⟨by'', seen'', k1, k2, k3⟩ := l96o hwf hto n row' by' seen' at' (by omega) g2
        refine ⟨by'', seen'', ?_, k2, k3⟩
        rw [heq]
        simp only [Bool.not_false, cond_true]
        rw [g1, k1]

/-! #### The way back -/
theorem l96r {ls : List Line} {ws : List (List Deed)} (hwf : WF ls ws) {from_ : Nat} {by_ : List Int} {seen : List Bool} {rk : Nat → Nat} (ht : Tree ls ws.length from_ by_ seen rk) : ∀ (n : Nat) (p : Nat) (v v1 to_ : Int) (out : List Int), IntKind.i64.wrap (IntKind.i64.wrap (v + v1) - to_) = (p : Int) → seen[p]? = some true → rk p ≤ n → 0 < out.length → out.length + rk p ≤ 16 →
    ∃ ys : List Int, 0 < ys.length ∧ ys.length ≤ 16 ∧ L96_111111111014v1 from_ v v1 to_ (ls.map eLine) (ws.map eDs) (by_.map eInt) (out.map eInt) = some (.pv (.lst (ys.map eInt)), [])
  | n, p, v, v1, to_, out, hp, hs, hn, h0, h1 => by
    by_cases hpf : p = from_
    · obtain ⟨ys, g1, g2⟩ := v109 out (by omega)
      refine ⟨ys, by omega, by omega, ?_⟩
      rw [e96_111111111014v1, hp]
      rw [show ((p : Int) != (from_ : Int)) = false from by simp [hpf]]
      simp only [cond_false, g2, Option.bind_some]
      rfl
    · obtain ⟨i, x, q, e1, e2, e3, e4, e5, e6⟩ := ht.par p hs hpf
      cases n with
      | zero => omega
      | succ n =>
        have hx := List.mem_of_getElem? e3
        obtain ⟨q', f1, f2, f3, f4⟩ := wf_other hwf hx (p := p) (by rcases e4 with ⟨a, b⟩ | ⟨a, b⟩ <;> simp [a, b])
        obtain rfl := ends_inj e4 f1
        obtain ⟨ys, g1, g2, g3⟩ := l96r hwf ht n q x.1 x.2 p (out ++ [i]) f4 e5 (by omega) (by simp) (by simp; omega)
        refine ⟨ys, g1, g2, ?_⟩
        have hpl : p < by_.length := (List.getElem?_eq_some_iff.1 e1).1
        have e1' : (by_.map eInt)[(p : Int).toNat]? = some (eInt i) := by rw [Int.toNat_natCast]; exact get_map e1
        rw [e96_111111111014v1, hp]
        rw [show ((p : Int) != (from_ : Int)) = true from by simp; omega]
        simp only [cond_true, List.length_map, dT (Int.natCast_nonneg p), dT (show (p : Int) < ((by_.length : Nat) : Int) by omega), Bool.and_self, e1', Option.bind_some, intc_fits, intc_i, small_of (show (out.length + 1) * 8 ≤ 141000000000000 by omega), dT e2, get_map (f := eLine) e3, line_fits, line_a, line_b]
        rw [← g3, List.map_append]
        rfl

theorem v96 {ls : List Line} {ws : List (List Deed)} (hwf : WF ls ws) {from_ to_ but : Nat} (hfrom : from_ < ws.length) (hto : to_ < ws.length) (hne : to_ ≠ from_) :
    ∃ o, V 96 [.pv (eNet ls ws), .pv (.int .i64 from_), .pv (.int .i64 to_), .pv (.int .i64 but)] = some (.pv o, []) ∧
      ((o = .nils ∧ ∃ S, Closed ls but S ∧ S from_ ∧ ¬ S to_) ∨ ∃ ys : List Int, o = .lst (ys.map eInt) ∧ 0 < ys.length ∧ ys.length ≤ 16) := by
  have hnw := hwf.nw
  -- the list 'by', full of -1
  have l96b : ∀ (n k : Nat) (by_ : List Int), by_.length = ws.length → ws.length - k = n → k ≤ ws.length →
      ∃ by' : List Int, by'.length = ws.length ∧ L96_11014 from_ to_ but (ws.map eDs) k (ls.map eLine) (by_.map eInt) = L96_11014 from_ to_ but (ws.map eDs) ws.length (ls.map eLine) (by'.map eInt) := by
    intro n
    induction n with
    | zero => intro k by_ h1 h2 h3; exact ⟨by_, h1, by rw [show k = ws.length by omega]⟩
    | succ n ih =>
      intro k by_ h1 h2 h3
      obtain ⟨by', g1, g2⟩ := ih (k + 1) (by_.set k (-1)) (by simpa using h1) (by omega) (by omega)
      refine ⟨by', g1, ?_⟩
      obtain ⟨y, hy⟩ : ∃ b, by_[k]? = some b := ⟨_, List.getElem?_eq_getElem (by omega)⟩
      have hy' : (by_.map eInt)[(k : Int).toNat]? = some (eInt y) := by rw [Int.toNat_natCast]; exact get_map hy
      rw [e96_11014]
      simp only [List.length_map, List.length_replicate, Int.toNat_natCast, dT (show (k : Int) < ((ws.length : Nat) : Int) by omega), dT (show (k : Int) < ((by_.length : Nat) : Int) by omega), dT (Int.natCast_nonneg k), Bool.and_self, cond_true, get_map (f := eInt) hy, Option.bind_some, intc_set, intc_eta, ← List.map_set, wrap_i64 (show -9223372036854775808 ≤ (k : Int) + 1 by omega) (by omega)]
      rw [show ((k : Int) + 1) = ((k + 1 : Nat) : Int) by omega]
      exact g2
  obtain ⟨by1, b1, b2⟩ := l96b ws.length 0 (List.replicate ws.length 0) (by simp) (by omega) (by omega)
  have hse : (List.replicate ws.length false)[from_]? = some false := by simp [hfrom]
  have hB : Bfs ls ws.length from_ but from_ 0 [from_] by1 ((List.replicate ws.length false).set from_ true) := by
    obtain ⟨c1, c2⟩ := count_set hse
    have hct : (List.replicate ws.length false).count false = ws.length := by simp [List.count_replicate]
    have hself : ((List.replicate ws.length false).set from_ true)[from_]? = some true := by rw [List.getElem?_set_self (by simpa using hfrom)]
    have honly : ∀ v, ((List.replicate ws.length false).set from_ true)[v]? = some true → v = from_ := fun v hv => by
      by_cases e : from_ = v
      · exact e.symm
      · rw [List.getElem?_set_ne e] at hv
        have := (List.mem_replicate.1 (List.mem_of_getElem? hv)).2
        cases this
    refine ⟨⟨fun _ => 0, ⟨by simp, b1, hself, fun v hv => by omega, fun v hv hvf => absurd (honly v hv) hvf⟩⟩, fun q hq => ?_, hself, fun v hv hvr => ?_, ?_⟩
    · rw [List.mem_singleton.1 hq]; exact hself
    · rw [honly v hv] at hvr; simp at hvr
    · simp only [List.length_cons, List.length_nil]; omega
  obtain ⟨by', seen', g1, ⟨rk, ht⟩, g3⟩ := l96o (but := but) hwf hto (2 * ((List.replicate ws.length false).set from_ true).count false + [from_].length) [from_] by1 _ from_ (Nat.le_refl _) (by
    refine ⟨hB.tree, hB.rowS, hB.atS, fun v hv hvr i x q e1 e2 e3 e4 => ?_, hB.bd⟩
    have : v = from_ := by
      by_cases e : from_ = v
      · exact e.symm
      · rw [List.getElem?_set_ne e] at hv
        have := (List.mem_replicate.1 (List.mem_of_getElem? hv)).2
        cases this
    rw [this] at hvr; simp at hvr)
  have hrepB : (List.replicate ws.length (PV.bool false)) = (List.replicate ws.length false).map eB := by simp [eB]
  have hrepI : (List.replicate ws.length (PV.int .i64 0)) = (List.replicate ws.length (0 : Int)).map eInt := by simp [eInt]
  have hw : (ws.length : Int) ≤ 2147483648 := by omega
  have hstart : V 96 [.pv (eNet ls ws), .pv (.int .i64 from_), .pv (.int .i64 to_), .pv (.int .i64 but)] = L96_11111116 from_ to_ (ls.map eLine) (ws.map eDs) (by'.map eInt) (seen'.map eB) := by
    rw [e96]
    simp only [List.length_map, dT (Int.natCast_nonneg _), dT (Int.le_refl _), dT hw, Bool.and_self, Bool.true_and, show Nat.ble 8 65536 = true from rfl, show Nat.blt 0 1 = true from rfl, cond_true, Int.toNat_natCast, hrepI]
    rw [show ((0 : Nat) : Int) = 0 from rfl] at b2
    rw [b2, e96_11014]
    have hse' : ((List.replicate ws.length false).map eB)[(from_ : Int).toNat]? = some (eB false) := by rw [Int.toNat_natCast]; exact get_map hse
    simp only [List.length_map, List.length_replicate, Int.toNat_natCast, dF (Int.lt_irrefl _), cond_false, dT (Int.natCast_nonneg _), dT (Int.le_refl _), dT hw, Bool.and_self, Bool.true_and, show Nat.ble 1 65536 = true from rfl, show Nat.blt 0 1 = true from rfl, cond_true, hrepB, dT (show (from_ : Int) < ((ws.length : Nat) : Int) by omega)]
    rw [Int.toNat_natCast] at hse'
    simp only [hse', Option.bind_some, bc_set, cond_true, bc_eta, ← List.map_set]
    exact g1
  have hts : to_ < seen'.length := by rw [ht.ns]; exact hto
  obtain ⟨b, hb⟩ : ∃ b, seen'[to_]? = some b := ⟨_, List.getElem?_eq_getElem hts⟩
  have hb' : (seen'.map eB)[(to_ : Int).toNat]? = some (eB b) := by rw [Int.toNat_natCast]; exact get_map hb
  rw [hstart, e96_11111116]
  simp only [List.length_map, dT (Int.natCast_nonneg _), dT (show (to_ : Int) < ((seen'.length : Nat) : Int) by omega), Bool.and_self, cond_true, hb', Option.bind_some, bc_fits, bc_b]
  cases b with
  | false =>
    refine ⟨.nils, rfl, .inl ⟨rfl, _, g3 hb, ht.root, ?_⟩⟩
    rw [hb]; simp
  | true =>
    simp only [Bool.not_true, cond_false]
    obtain ⟨i, x, q, e1, e2, e3, e4, e5, e6⟩ := ht.par to_ hb hne
    have hx := List.mem_of_getElem? e3
    obtain ⟨q', f1, f2, f3, f4⟩ := wf_other hwf hx (p := to_) (by rcases e4 with ⟨a, b⟩ | ⟨a, b⟩ <;> simp [a, b])
    obtain rfl := ends_inj e4 f1
    have hrk := ht.rkle q e5
    obtain ⟨ys, g1, g2, g3⟩ := l96r hwf ht (rk q) q x.1 x.2 to_ [i] f4 e5 (Nat.le_refl _) (by simp) (by simp; omega)
    have htb : to_ < by'.length := (List.getElem?_eq_some_iff.1 e1).1
    have e1' : (by'.map eInt)[(to_ : Int).toNat]? = some (eInt i) := by rw [Int.toNat_natCast]; exact get_map e1
    refine ⟨_, ?_, .inr ⟨ys, rfl, g1, g2⟩⟩
    rw [e96_111111111014]
    rw [show ((to_ : Int) != (from_ : Int)) = true from by simp; omega]
    simp only [cond_true, List.length_map, dT (Int.natCast_nonneg _), dT (show (to_ : Int) < ((by'.length : Nat) : Int) by omega), Bool.and_self, e1', Option.bind_some, intc_fits, intc_i, dT e2, get_map (f := eLine) e3, line_fits, line_a, line_b]
    exact g3

/-! #### Ring -/
theorem fits_ints (ys : List Int) : Sh.lst.fits (.lst (ys.map eInt)) = true := nrfl rfl
theorem head_ints {ys : List Int} : headOk 1 (ys.map eInt) = true := by
  cases ys <;> rfl
theorem some_ints {ys : List Int} (h : 0 < ys.length) : some? (ys.map eInt) = some true := by
  cases ys with
  | nil => simp at h
  | cons y ys => rfl

theorem line_way {ls : List Line} {ws : List (List Deed)} (hwf : WF ls ws) {k : Nat} {x : Line} (hx : ls[k]? = some x) : ∃ o, V 96 [.pv (eNet ls ws), .pv (.int .i64 x.2), .pv (.int .i64 x.1), .pv (.int .i64 k)] = some (.pv o, []) ∧
      ((o = .nils ∧ Cut ls k x) ∨ ∃ ys : List Int, o = .lst (ys.map eInt) ∧ 0 < ys.length ∧ ys.length ≤ 16) := by
  obtain ⟨f1, f2, f3, f4, f5⟩ := hwf.line x (List.mem_of_getElem? hx)
  obtain ⟨o, g1, g2⟩ := v96 hwf (from_ := x.2.toNat) (to_ := x.1.toNat) (but := k) (by omega) (by omega) (by omega)
  rw [Int.toNat_of_nonneg f1, Int.toNat_of_nonneg f2] at g1
  exact ⟨o, g1, g2⟩

theorem l61b {ls : List Line} {ws : List (List Deed)} (hwf : WF ls ws) : ∀ (l : List Line) (k : Nat) (i1 : Int) (ys : List Int), ls.drop k = l → 0 < ys.length → ys.length ≤ 16 → ∃ r, L61_111014v1 i1 (ys.map eInt) (ls.map eLine) k (ws.map eDs) = some (.pv (.tup [.lst r, .int .i64 0]), [])
  | [], k, i1, ys, h, h0, h1 => by
    refine ⟨[.int .i64 i1] ++ ys.map eInt, ?_⟩
    rw [e61_111014v1, endK_map h]
    rfl
  | x :: l, k, i1, ys, h, h0, h1 => by
    have hls : ls.length ≤ maxLen := by have := hwf.nl; simp [maxLen]; omega
    have A := atK_map (f := eLine) h hls
    have A' := atK h hls
    obtain ⟨o, g1, g2⟩ := line_way hwf A'.get'
    rw [e61_111014v1]
    simp only [A.lt, A.ge, A.get, cond_true, Option.bind_some]
    simp only [line_fits, line_a, line_b, cond_true, g1, Option.bind_some, retPV_pv]
    rcases g2 with ⟨rfl, _⟩ | ⟨zs, rfl, z0, z1⟩
    · simp only [show PV.nils.isNils = true from rfl, cond_true]
      rw [e61_11101451104116v2, A.next]
      exact l61b hwf l (k + 1) i1 ys A'.drop h0 h1
    · simp only [show (PV.lst (zs.map eInt)).isNils = false from rfl, cond_false, fits_ints, cond_true, toLst_lst]
      rw [e61_11101451104116v3, A.next, some_ints z0, head_ints, small_of (by simp; omega), show some? (([.int .i64 i1] : List PV) ++ ys.map eInt) = some true from rfl]
      simp only [Option.bind_some, cond_true]
      cases decide (IntKind.i64.wrap (((zs.map eInt).length : Int) + 1) < (((([.int .i64 i1] : List PV) ++ ys.map eInt).length : Nat) : Int)) with
      | true => exact l61b hwf l (k + 1) k zs A'.drop z0 z1
      | false => exact l61b hwf l (k + 1) i1 ys A'.drop h0 h1

theorem l61a {ls : List Line} {ws : List (List Deed)} (hwf : WF ls ws) : ∀ (l : List Line) (k : Nat), ls.drop k = l → ∃ r e, L61_111014 (ls.map eLine) k (ws.map eDs) = some (.pv (.tup [.lst r, .int .i64 e]), []) ∧ (e = 0 ∨ e = 4 ∧ ∀ (j : Nat) x, l[j]? = some x → Cut ls (k + j) x)
  | [], k, h => by
    refine ⟨[], 4, ?_, .inr ⟨rfl, fun j x hj => by simp at hj⟩⟩
    rw [e61_111014, endK_map h]
    rfl
  | x :: l, k, h => by
    have hls : ls.length ≤ maxLen := by have := hwf.nl; simp [maxLen]; omega
    have A := atK_map (f := eLine) h hls
    have A' := atK h hls
    obtain ⟨o, g1, g2⟩ := line_way hwf A'.get'
    rw [e61_111014]
    simp only [A.lt, A.ge, A.get, cond_true, Option.bind_some]
    simp only [line_fits, line_a, line_b, cond_true, g1, Option.bind_some, retPV_pv]
    rcases g2 with ⟨rfl, hc⟩ | ⟨zs, rfl, z0, z1⟩
    · simp only [show PV.nils.isNils = true from rfl, cond_true]
      rw [e61_11101451104116, A.next]
      obtain ⟨r, e, k1, k2⟩ := l61a hwf l (k + 1) A'.drop
      refine ⟨r, e, k1, ?_⟩
      rcases k2 with k2 | ⟨k2, k3⟩
      · exact .inl k2
      · refine .inr ⟨k2, fun j y hj => ?_⟩
        cases j with
        | zero => simp at hj; subst hj; exact hc
        | succ j =>
          have := k3 j y (by simpa using hj)
          rw [show k + (j + 1) = k + 1 + j by omega]
          exact this
    · simp only [show (PV.lst (zs.map eInt)).isNils = false from rfl, cond_false, fits_ints, cond_true, toLst_lst]
      rw [e61_11101451104116v1, A.next, some_ints z0, head_ints, small_of (by simp; omega)]
      simp only [Option.bind_some, cond_true]
      obtain ⟨r, hr⟩ := l61b hwf l (k + 1) k zs A'.drop z0 z1
      exact ⟨r, 0, hr, .inl rfl⟩

theorem v61_ok {ls : List Line} {ws : List (List Deed)} (hls : ls.length ≤ maxLen) (hws : ws.length ≤ maxLen) (h : check ls ws = 0) : ∃ r e, V 61 [.pv (eNet ls ws)] = some (.pv (.tup [.lst r, .int .i64 e]), []) ∧ (e = 0 ∨ e = 4 ∧ ∀ i x, ls[i]? = some x → Cut ls i x) := by
  obtain ⟨r, e, k1, k2⟩ := l61a (check_ok h) ls 0 rfl
  refine ⟨r, e, ?_, ?_⟩
  · rw [e61, v63 hls hws, h]
    simp only [Option.bind_some, retPV_pv, fits_i64, cond_true, toInt_int, bne_self_eq_false, cond_false]
    exact k1
  · simpa using k2
theorem v61_no {ls : List Line} {ws : List (List Deed)} (hls : ls.length ≤ maxLen) (hws : ws.length ≤ maxLen) (h : check ls ws ≠ 0) : V 61 [.pv (eNet ls ws)] = some (.pv (.tup [.lst [], .int .i64 (check ls ws)]), []) := by
  rw [e61, v63 hls hws]
  simp only [Option.bind_some, retPV_pv, fits_i64, cond_true, toInt_int]
  rw [show (check ls ws != 0) = true from by simpa using h]
  rfl

/-! #### The law -/
theorem l17 {ws : List (List Deed)} (hws : ws.length ≤ maxLen) {b : List Nat} (hb : ∀ (p : Nat) w, ws[p]? = some w → b[p]? = some w.length) : ∀ (l : List (List Deed)) (k : Nat), ws.drop k = l → L17_1111111014 (b.map eNat) (ws.map eDs) k = some (.pv (.bool true), [])
  | [], k, h => by
    rw [e17_1111111014, endK_map h]
    rfl
  | w :: l, k, h => by
    have A := atK_map (f := eDs) h hws
    have A' := atK h hws
    have ih := l17 hws hb l (k + 1) A'.drop
    have hk : (b.map eNat)[(k : Int).toNat]? = some (eNat w.length) := by rw [Int.toNat_natCast]; exact get_map (hb k w A'.get')
    rw [e17_1111111014]
    simp only [A.lt, A.ge, A.get, A.next, cond_true, Option.bind_some]
    simp only [cond_true, ds_fits, ds_l, hk, Option.bind_some, nat_fits, nat_i, List.length_map, bne_self_eq_false, cond_false]
    exact ih

theorem law17 {ls : List Line} {ws : List (List Deed)} (picks : List Int) (hls : ls.length ≤ maxLen) (hws : ws.length ≤ maxLen) : V 17 [.pv (eNet ls ws), .pv (.lst (picks.map eInt))] = some (.pv (.bool true), []) := by
  rw [e17, v21]
  simp only [Option.bind_some, retPV_pv, fits_bool, cond_true, toBool_bool, Bool.not_true, cond_false]
  by_cases h : check ls ws = 0
  · obtain ⟨r, e, k1, k2⟩ := v61_ok hls hws h
    rw [v31_ok hls hws h, k1]
    simp only [Option.bind_some, retPV_pv, fits_tup, fitsL_cons, fitsL_nil, fits_lstS, fits_i64, cond_true, r_succ, r_zero, toInt_int, toLst_lst, Bool.not_false, Bool.true_or, Bool.and_self, bne_self_eq_false, cond_false]
    by_cases hd : dualL ws ls 0 ≥ 0
    · simp only [dT hd, cond_true]
    simp only [dF hd, cond_false]
    rcases k2 with rfl | ⟨rfl, hcut⟩
    · rfl
    obtain ⟨h1, r1⟩ := v22_ok (picks := picks) hls hws h
    obtain ⟨hv, hb⟩ := all_done (check_ok h) (by omega) hcut r1
    rw [h1]
    simp only [Option.bind_some, retPV_pv, fits_tup, fitsL_cons, fitsL_nil, fits_lstS, fits_i64, cond_true, r_succ, r_zero, toInt_int, toLst_lst, Bool.not_false, Bool.true_or, Bool.and_self, bne_self_eq_false, cond_false, List.length_map, hv.len]
    exact l17 hws hb ws 0 rfl
  · rw [v31_no hls hws h, v61_no hls hws h]
    simp only [Option.bind_some, retPV_pv, fits_tup, fitsL_cons, fitsL_nil, fits_lstS, fits_i64, cond_true, r_succ, r_zero, toInt_int, toLst_lst, Bool.not_false, Bool.true_or, Bool.and_self]
    rw [show (check ls ws != 0) = true from by simpa using h]
    rfl
end Go.AL.S1
