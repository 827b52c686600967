/- The judge: names, lists of names, types, patterns come to an end. -/
import Derived.Test.YtlmodlihiglnhaaDoorS10Tree2
set_option linter.unusedVariables false
set_option linter.unusedSimpArgs false
set_option maxRecDepth 20000
namespace Go.AL.S10
open Go Go.AL

def isB (o : Option Out) : Prop := ∃ b, o = some (.pv (.bool b), [])
def isI (o : Option Out) : Prop := ∃ n, o = some (.pv (.int .i64 n), [])
theorem isI.mk (n : Int) : isI (some (.pv (.int .i64 n), [])) := ⟨n, rfl⟩
theorem isB.mk (b : Bool) : isB (some (.pv (.bool b), [])) := ⟨b, rfl⟩
theorem isI.bif {c : Bool} {a b : Option Out} (h : isI a) (k : isI b) : isI (bif c then a else b) := by cases c <;> assumption
theorem isB.bif {c : Bool} {a b : Option Out} (h : isB a) (k : isB b) : isB (bif c then a else b) := by cases c <;> assumption
theorem isB.ofB {o : Option Out} {f : PV → Option Out} (h : isB o) (k : ∀ b, isB (f (.bool b))) : isB ((o.bind retPV).bind f) := by
  obtain ⟨b, rfl⟩ := h; exact k b
theorem isI.ofI {o : Option Out} {f : PV → Option Out} (h : isI o) (k : ∀ n, isI (f (.int .i64 n))) : isI ((o.bind retPV).bind f) := by
  obtain ⟨b, rfl⟩ := h; exact k b
theorem str_fits (s : Str) : Sh.str.fits (.str s) = true := nrfl rfl
theorem str_str (s : Str) : (PV.str s).toStr = s := nrfl rfl

/-- A call of the judge's: what it holds behind; if that is nothing wrong, so and so. -/
def JR (Q : Prop) (o : Option Out) : Prop := ∃ j : Int, o = some (.pv (.tup []), [.box [.int .i64 j]]) ∧ (j = 0 → Q)
section
variable {Q R : Prop}
theorem JR.ret {v : Int} (h : v = 0 → Q) : JR Q (some (.pv (.tup []), [.box [.int .i64 v]])) := ⟨v, rfl, h⟩
theorem JR.bif {c : Bool} {a b : Option Out} (ha : c = true → JR Q a) (hb : c = false → JR Q b) : JR Q (bif c then a else b) := by
  cases c with
  | true => exact ha rfl
  | false => exact hb rfl
theorem JR.call {o : Option Out} {K : Out → Option Out} (h : JR R o) (k : ∀ j : Int, (j = 0 → R) → JR Q (K (.pv (.tup []), [.box [.int .i64 j]]))) :
    JR Q (o.bind fun r => bif refFits [(0, some (Sh.agg [Sh.int .i64]))] [] r.2 then (retPV (r.1, [])).bind fun r1 => bif (Sh.tup []).fits r1 then K r else none else none) := by
  obtain ⟨j, rfl, hj⟩ := h
  exact k j hj
theorem JR.ofB {o : Option Out} {f : PV → Option Out} (h : isB o) (k : ∀ b, o = some (.pv (.bool b), []) → JR Q (f (.bool b))) : JR Q ((o.bind retPV).bind f) := by
  obtain ⟨b, rfl⟩ := h; exact k b rfl
theorem JR.ofI {o : Option Out} {f : PV → Option Out} (h : isI o) (k : ∀ n, o = some (.pv (.int .i64 n), []) → JR Q (f (.int .i64 n))) : JR Q ((o.bind retPV).bind f) := by
  obtain ⟨b, rfl⟩ := h; exact k b rfl
end
theorem jb (x : Arg) (j : Int) : ((Out.b (x, [Ref.box [.int .i64 j]]) 0).c 0).toInt = j := nrfl rfl
theorem v89 (j : Int) (ok : Bool) (e : Int) : V 89 [.box [.int .i64 j], .pv (.bool ok), .pv (.int .i64 e)] = some (.pv (.tup []), [.box [.int .i64 (bif j == 0 then (bif ok then j else e) else j)]]) := by
  rw [e89]
  cases h : j == 0 with
  | true => cases ok <;> (simp only [cond_true, cond_false]; rw [e89_16]; rfl)
  | false => simp only [cond_false]; rw [e89_16]; rfl
theorem must {j e : Int} {ok : Bool} (he : e ≠ 0) (h : (bif j == 0 then (bif ok then j else e) else j) = 0) : j = 0 ∧ ok = true := by
  cases hj : j == 0 with
  | true =>
    rw [hj] at h
    cases ok with
    | true => exact ⟨h, rfl⟩
    | false => exact absurd h he
  | false =>
    rw [hj] at h
    simp only [cond_false] at h
    rw [h] at hj
    cases hj
theorem v53 (j : Int) (ok : Bool) : JR (j = 0 ∧ ok = true) (V 53 [.box [.int .i64 j], .pv (.bool ok)]) := by
  rw [e53, v89]
  exact ⟨_, rfl, must (by decide)⟩
theorem v52 (j : Int) (ok : Bool) : JR (j = 0 ∧ ok = true) (V 52 [.box [.int .i64 j], .pv (.bool ok)]) := by
  rw [e52, v89]
  exact ⟨_, rfl, must (by decide)⟩

/-! #### Names -/
theorem e111 (s : Str) (c : Int) : V 111 [.pv (.str s), .pv (.int .u8 c)] = some (.pv (.int .i64 (Lib.indexByte s c.toNat.toUInt8)), []) := V_prim pa (g := fun _ => idxP) rfl _
theorem e112 (s cs : Str) : V 112 [.pv (.str s), .pv (.str cs)] = trimP [.pv (.str s), .pv (.str cs)] := V_prim pa (g := fun _ => trimP) rfl _
theorem e113 (s : Str) : V 113 [.pv (.str s)] = fieldsP [.pv (.str s)] := V_prim pa (g := fun _ => fieldsP) rfl _
theorem v112 {s cs : Str} (h1 : s.length ≤ 1000000) (h2 : cs.length ≤ 1000000) (h3 : ascii cs = true) : V 112 [.pv (.str s), .pv (.str cs)] = some (.pv (.str (Lib.trimS s cs)), []) := by
  rw [e112]
  show (bif ascii cs && (Nat.ble s.length 1000000 && Nat.ble cs.length 1000000) then _ else _) = _
  rw [h3, Nat.ble_eq_true_of_le h1, Nat.ble_eq_true_of_le h2]; rfl
theorem t90 (s f : Str) : isB (V 90 [.pv (.str s), .pv (.str f)]) := by
  rw [e90]
  cases s with
  | nil => exact .mk _
  | cons c s =>
    refine .bif ?_ (.mk _)
    cases h : decide (((List.length (c :: s) : Nat) : Int) < 17) with
    | false => exact .mk _
    | true =>
      have h16 := of_decide_eq_true h
      have h0 : (c :: s)[(0 : Int).toNat]? = some c := rfl
      rw [h0]
      simp only [cond_true, Option.bind_some, e111, retPV_pv, fits_i64, toInt_int]
      refine .bif ?_ (.mk _)
      rw [v112 (by omega) (by decide) (by decide)]
      simp only [Option.bind_some, retPV_pv, str_fits, cond_true]
      exact .mk _
theorem t58 (s : Str) : isB (V 58 [.pv (.str s)]) := by
  rw [e58]
  refine .ofB (t90 _ _) fun b => ?_
  simp only [fits_bool, toBool_bool, cond_true]
  exact .mk _
theorem v113 {s : Str} (h1 : ascii s = true) (h2 : s.length ≤ 1000000) : V 113 [.pv (.str s)] = some (.pv (.lst ((Lib.fields s).map .str)), []) := by
  rw [e113]
  show (bif ascii s && Nat.ble s.length 1000000 then _ else _) = _
  rw [h1, Nat.ble_eq_true_of_le h2]; rfl
theorem v91 : ∃ w : List Str, V 91 [] = some (.pv (.lst (w.map .str)), []) ∧ w.length ≤ 1000 := by
  rw [e91, v113 (by decide) (by decide)]
  simp only [Option.bind_some, retPV_pv, fits_lstS, cond_true, toLst_lst]
  refine Exists.intro _ (And.intro rfl ?_)
  exact of_decide_eq_true (by decide +kernel)
theorem l63 {xs : List Str} {s : Str} (hl : xs.length ≤ maxLen) : ∀ (l : List Str) (k : Nat), xs.drop k = l → ∃ n : Int, L63_1014 (xs.map .str) s k = some (.pv (.int .i64 n), [])
  | [], k, h => ⟨_, by rw [e63_1014, endK_map h]; rfl⟩
  | x :: l, k, h => by
    have A := atK_map (f := PV.str) h hl
    obtain ⟨n, ih⟩ := l63 hl l (k + 1) (atK h hl).drop
    rw [e63_1014]
    simp only [A.lt, A.ge, A.get, A.next, cond_true, Option.bind_some, str_fits, str_str]
    cases s == x with
    | true => exact ⟨_, rfl⟩
    | false => exact ⟨n, ih⟩
theorem t25 {xs : List Str} (s : Str) (hl : xs.length ≤ maxLen) : isB (V 25 [.pv (.lst (xs.map .str)), .pv (.str s)]) := by
  obtain ⟨n, h⟩ := l63 (s := s) hl xs 0 rfl
  rw [e25, e63]
  have h' : L63_1014 (xs.map PV.str) s 0 = some (.pv (.int .i64 n), []) := h
  rw [h']
  simp only [Option.bind_some, retPV_pv, fits_i64, cond_true, toInt_int]
  exact .mk _
theorem t54 (s : Str) : isB (V 54 [.pv (.str s)]) := by
  rw [e54]
  refine .ofB (t90 _ _) fun b => ?_
  simp only [fits_bool, toBool_bool, cond_true]
  refine .bif ?_ (.mk _)
  obtain ⟨w, h1, h2⟩ := v91
  rw [h1]
  simp only [Option.bind_some, retPV_pv, fits_lstS, cond_true, toLst_lst]
  refine .ofB (t25 s (Nat.le_trans h2 (by decide))) fun b => ?_
  simp only [fits_bool, toBool_bool, cond_true]
  exact .mk _
theorem l57 {xs : List Str} (hl : xs.length ≤ maxLen) : ∀ (l : List Str) (k : Nat) (j : Int), xs.drop k = l → JR (j = 0) (L57_114 (xs.map .str) k j)
  | [], k, j, h => by rw [e57_114, endK_map h]; exact .ret id
  | x :: l, k, j, h => by
    have A := atK_map (f := PV.str) h hl
    have A' := atK h hl
    rw [e57_114]
    simp only [A.lt, A.ge, A.get, A.next, cond_true, Option.bind_some, str_fits, str_str]
    refine .ofB (t54 _) fun b _ => ?_
    simp only [fits_bool, toBool_bool, cond_true]
    refine .call (v53 _ _) fun j1 h1 => ?_
    simp only [jb]
    obtain ⟨j2, g1, g2⟩ := l57 hl l (k + 1) j1 A'.drop
    exact ⟨j2, g1, fun e => (h1 (g2 e)).1⟩
theorem v57 {xs : List Str} (hl : xs.length ≤ maxLen) (j : Int) : JR (j = 0) (V 57 [.box [.int .i64 j], .pv (.lst (xs.map .str))]) := by
  rw [e57]
  refine .call (v52 _ _) fun j1 h1 => ?_
  simp only [jb]
  obtain ⟨j2, g1, g2⟩ := l57 hl xs 0 j1 rfl
  exact ⟨j2, g1, fun e => (h1 (g2 e)).1⟩
end Go.AL.S10
