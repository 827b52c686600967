/- Expressions as trees: parts, sizes, walks, depths. -/
import Derived.Test.YtlmodlihiglnhaaDoorS10Ty
import Derived.Test.YtlmodlihiglnhaaDoorAL4
set_option linter.unusedVariables false
set_option linter.unusedSimpArgs false
namespace Go.AL.S10
open Go Go.AL

inductive Pa where
  | mk (k n : Int) (t : List UInt8) (args : List Pa)
mutual
def Pa.cells : Pa → List PV
  | .mk k n t args => [.int .i64 k, .int .i64 n, .str t, .lst (Pa.encs args)]
def Pa.encs : List Pa → List PV
  | [] => []
  | p :: l => .agg p.cells :: Pa.encs l
end
def Pa.enc (p : Pa) : PV := .agg p.cells
def Pa.args : Pa → List Pa | .mk _ _ _ a => a
def Pa.kind : Pa → Int | .mk k _ _ _ => k
def Pa.num : Pa → Int | .mk _ n _ _ => n
def Pa.text : Pa → List UInt8 | .mk _ _ t _ => t
theorem Pa.encs_map (l : List Pa) : Pa.encs l = l.map Pa.enc := by
  induction l with
  | nil => simp [Pa.encs]
  | cons p l ih => simp [Pa.encs, ih, Pa.enc]
theorem pa_cells (p : Pa) : p.cells = [.int .i64 p.kind, .int .i64 p.num, .str p.text, .lst (p.args.map Pa.enc)] := by
  cases p; rw [Pa.cells, Pa.encs_map]; rfl
theorem pa_enc (p : Pa) : p.enc = .agg [.int .i64 p.kind, .int .i64 p.num, .str p.text, .lst (p.args.map Pa.enc)] := by rw [Pa.enc, pa_cells]
theorem pa_fits (p : Pa) : (Sh.agg [Sh.int .i64, Sh.int .i64, Sh.str, Sh.lst]).fits p.enc = true := by rw [pa_enc]; rfl
theorem pa_eta (p : Pa) : PV.agg [.int .i64 (p.enc.c 0).toInt, .int .i64 (p.enc.c 1).toInt, .str (p.enc.c 2).toStr, .lst (p.enc.c 3).toLst] = p.enc := by rw [pa_enc]; rfl
theorem pa_3 (p : Pa) : (p.enc.c 3).toLst = p.args.map Pa.enc := by rw [pa_enc]; rfl

inductive Ex where
  | mk (k n : Int) (t : List UInt8) (ns : List (List UInt8)) (tys : List PV) (args : List Ex) (arms : List (Pa × Ex)) (at_ : Int)
mutual
def Ex.cells : Ex → List PV
  | .mk k n t ns tys args arms at_ => [.int .i64 k, .int .i64 n, .str t, .lst (ns.map .str), .lst tys, .lst (Ex.encs args), .lst (Ex.encA arms), .int .i64 at_]
def Ex.encs : List Ex → List PV
  | [] => []
  | e :: l => .agg e.cells :: Ex.encs l
def Ex.encA : List (Pa × Ex) → List PV
  | [] => []
  | x :: l => Ex.encP x :: Ex.encA l
def Ex.encP : Pa × Ex → PV
  | (p, e) => .agg (p.cells ++ e.cells)
end
def Ex.enc (e : Ex) : PV := .agg e.cells
def eArm (x : Pa × Ex) : PV := .agg (x.1.cells ++ x.2.cells)
def Ex.kind : Ex → Int | .mk k _ _ _ _ _ _ _ => k
def Ex.num : Ex → Int | .mk _ n _ _ _ _ _ _ => n
def Ex.text : Ex → List UInt8 | .mk _ _ t _ _ _ _ _ => t
def Ex.names : Ex → List (List UInt8) | .mk _ _ _ ns _ _ _ _ => ns
def Ex.types : Ex → List PV | .mk _ _ _ _ tys _ _ _ => tys
def Ex.args : Ex → List Ex | .mk _ _ _ _ _ args _ _ => args
def Ex.arms : Ex → List (Pa × Ex) | .mk _ _ _ _ _ _ arms _ => arms
def Ex.at_ : Ex → Int | .mk _ _ _ _ _ _ _ a => a
theorem Ex.encs_map (l : List Ex) : Ex.encs l = l.map Ex.enc := by
  induction l with
  | nil => simp [Ex.encs]
  | cons p l ih => simp [Ex.encs, ih, Ex.enc]
theorem Ex.encA_map (l : List (Pa × Ex)) : Ex.encA l = l.map eArm := by
  induction l with
  | nil => simp [Ex.encA]
  | cons p l ih => obtain ⟨p, e⟩ := p; simp [Ex.encA, ih, Ex.encP, eArm]
theorem ex_cells (e : Ex) : e.cells = [.int .i64 e.kind, .int .i64 e.num, .str e.text, .lst (e.names.map .str), .lst e.types, .lst (e.args.map Ex.enc), .lst (e.arms.map eArm), .int .i64 e.at_] := by
  cases e; rw [Ex.cells, Ex.encs_map, Ex.encA_map]; rfl
theorem ex_enc (e : Ex) : e.enc = .agg [.int .i64 e.kind, .int .i64 e.num, .str e.text, .lst (e.names.map .str), .lst e.types, .lst (e.args.map Ex.enc), .lst (e.arms.map eArm), .int .i64 e.at_] := by rw [Ex.enc, ex_cells]
theorem arm_enc (x : Pa × Ex) : eArm x = .agg [.int .i64 x.1.kind, .int .i64 x.1.num, .str x.1.text, .lst (x.1.args.map Pa.enc), .int .i64 x.2.kind, .int .i64 x.2.num, .str x.2.text, .lst (x.2.names.map .str), .lst x.2.types, .lst (x.2.args.map Ex.enc), .lst (x.2.arms.map eArm), .int .i64 x.2.at_] := by rw [eArm, pa_cells, ex_cells]; rfl
theorem ex_fits (e : Ex) : (Sh.agg [Sh.int .i64, Sh.int .i64, Sh.str, Sh.lst, Sh.lst, Sh.lst, Sh.lst, Sh.int .i64]).fits e.enc = true := by rw [ex_enc]; rfl
theorem arm_fits (x : Pa × Ex) : (Sh.agg [Sh.int .i64, Sh.int .i64, Sh.str, Sh.lst, Sh.int .i64, Sh.int .i64, Sh.str, Sh.lst, Sh.lst, Sh.lst, Sh.lst, Sh.int .i64]).fits (eArm x) = true := by rw [arm_enc]; rfl
theorem ex_eta (e : Ex) : PV.agg [.int .i64 (e.enc.c 0).toInt, .int .i64 (e.enc.c 1).toInt, .str (e.enc.c 2).toStr, .lst (e.enc.c 3).toLst, .lst (e.enc.c 4).toLst, .lst (e.enc.c 5).toLst, .lst (e.enc.c 6).toLst, .int .i64 (e.enc.c 7).toInt] = e.enc := by rw [ex_enc]; rfl
theorem arm_ex (x : Pa × Ex) : PV.agg [.int .i64 ((eArm x).c 4).toInt, .int .i64 ((eArm x).c 5).toInt, .str ((eArm x).c 6).toStr, .lst ((eArm x).c 7).toLst, .lst ((eArm x).c 8).toLst, .lst ((eArm x).c 9).toLst, .lst ((eArm x).c 10).toLst, .int .i64 ((eArm x).c 11).toInt] = x.2.enc := by rw [arm_enc, ex_enc]; rfl
theorem arm_pa (x : Pa × Ex) : PV.agg [.int .i64 ((eArm x).c 0).toInt, .int .i64 ((eArm x).c 1).toInt, .str ((eArm x).c 2).toStr, .lst ((eArm x).c 3).toLst] = x.1.enc := by rw [arm_enc, pa_enc]; rfl
theorem ex_0 (e : Ex) : (e.enc.c 0).toInt = e.kind := by rw [ex_enc]; rfl
theorem ex_1 (e : Ex) : (e.enc.c 1).toInt = e.num := by rw [ex_enc]; rfl
theorem ex_2 (e : Ex) : (e.enc.c 2).toStr = e.text := by rw [ex_enc]; rfl
theorem ex_3 (e : Ex) : (e.enc.c 3).toLst = e.names.map .str := by rw [ex_enc]; rfl
theorem ex_4 (e : Ex) : (e.enc.c 4).toLst = e.types := by rw [ex_enc]; rfl
theorem ex_5 (e : Ex) : (e.enc.c 5).toLst = e.args.map Ex.enc := by rw [ex_enc]; rfl
theorem ex_6 (e : Ex) : (e.enc.c 6).toLst = e.arms.map eArm := by rw [ex_enc]; rfl
theorem ex_7 (e : Ex) : (e.enc.c 7).toInt = e.at_ := by rw [ex_enc]; rfl

theorem Pa.ind {Q : Pa → Prop} (h : ∀ p, (∀ q, q ∈ p.args → Q q) → Q p) (p : Pa) : Q p := by
  have : ∀ (N : Nat) (p : Pa), SizeOf.sizeOf p < N → Q p := by
    intro N
    induction N with
    | zero => intro t ht; omega
    | succ N ih =>
      rintro ⟨k, n, t, args⟩ ht
      refine h _ fun t hm => ih t ?_
      have h1 := List.sizeOf_lt_of_mem (show t ∈ args from hm)
      simp only [Pa.mk.sizeOf_spec] at ht
      omega
  exact this _ p (Nat.lt_succ_self _)
theorem Ex.ind {Q : Ex → Prop} (h : ∀ e, (∀ a, a ∈ e.args → Q a) → (∀ x, x ∈ e.arms → Q x.2) → Q e) (e : Ex) : Q e := by
  have : ∀ (N : Nat) (e : Ex), SizeOf.sizeOf e < N → Q e := by
    intro N
    induction N with
    | zero => intro t ht; omega
    | succ N ih =>
      rintro ⟨k, n, t, ns, tys, args, arms, at_⟩ ht
      simp only [Ex.mk.sizeOf_spec] at ht
      refine h _ (fun t hm => ih t ?_) fun x hm => ih x.2 ?_
      · have h1 := List.sizeOf_lt_of_mem (show t ∈ args from hm)
        omega
      · have h1 := List.sizeOf_lt_of_mem (show x ∈ arms from hm)
        obtain ⟨p, e⟩ := x
        simp only [Prod.mk.sizeOf_spec] at h1
        simp only
        omega
  exact this _ e (Nat.lt_succ_self _)

/-! #### How much they hold -/
theorem le_sum {l : List Nat} {n : Nat} (h : n ∈ l) : n ≤ l.sum := by
  induction l with
  | nil => cases h
  | cons a l ih =>
    simp only [List.sum_cons]
    rcases List.mem_cons.1 h with rfl | h
    · omega
    · have := ih h; omega
def sumE (l : List Ex) : Nat := (l.map fun x => bk x.enc).sum
def sumP (l : List Pa) : Nat := (l.map fun x => bk x.enc).sum
def sumA (l : List (Pa × Ex)) : Nat := (l.map fun x => bk (eArm x)).sum
theorem bk_pa (p : Pa) : sumP p.args + 2 ≤ bk p.enc := by
  unfold sumP
  rw [pa_enc]
  simp only [bk, bkL, bkL_map]
  omega
theorem bk_ex (e : Ex) : sumE e.args + sumA e.arms + 2 ≤ bk e.enc := by
  unfold sumE sumA
  rw [ex_enc]
  simp only [bk, bkL, bkL_map]
  omega
theorem bk_arm (x : Pa × Ex) : bk (eArm x) + 1 = bk x.1.enc + bk x.2.enc := by
  unfold Pa.enc Ex.enc eArm
  simp only [bk, bkL_append]
  omega
theorem bk_args {e a : Ex} (h : a ∈ e.args) : bk a.enc + 2 ≤ bk e.enc := by
  have h1 := bk_ex e
  have : bk a.enc ≤ sumE e.args := by
    unfold sumE
    exact le_sum (List.mem_map.2 ⟨a, h, rfl⟩)
  omega
theorem bk_arms' {e : Ex} {x : Pa × Ex} (h : x ∈ e.arms) : bk (eArm x) + 2 ≤ bk e.enc := by
  have h1 := bk_ex e
  have : bk (eArm x) ≤ sumA e.arms := by
    unfold sumA
    exact le_sum (List.mem_map.2 ⟨x, h, rfl⟩)
  omega
theorem bk_pos (p : Pa) : 2 ≤ bk p.enc := by have := bk_pa p; omega
theorem bkE_pos (e : Ex) : 2 ≤ bk e.enc := by have := bk_ex e; omega
theorem bk_arms {e : Ex} {x : Pa × Ex} (h : x ∈ e.arms) : bk x.2.enc ≤ bk e.enc ∧ bk x.1.enc ≤ bk e.enc := by
  have h1 := bk_arms' h
  have h2 := bk_arm x
  have h3 := bk_pos x.1
  have h4 := bkE_pos x.2
  constructor <;> omega
theorem len_sumE (l : List Ex) : l.length ≤ sumE l := by
  induction l with
  | nil => simp [sumE]
  | cons e l ih => have := bkE_pos e; simp only [sumE, List.map_cons, List.sum_cons, List.length_cons] at ih ⊢; omega
theorem len_sumA (l : List (Pa × Ex)) : l.length ≤ sumA l := by
  induction l with
  | nil => simp [sumA]
  | cons e l ih => have h1 := bk_arm e; have h2 := bkE_pos e.2; have h3 := bk_pos e.1; simp only [sumA, List.map_cons, List.sum_cons, List.length_cons] at ih ⊢; omega
theorem len_sumP (l : List Pa) : l.length ≤ sumP l := by
  induction l with
  | nil => simp [sumP]
  | cons e l ih => have := bk_pos e; simp only [sumP, List.map_cons, List.sum_cons, List.length_cons] at ih ⊢; omega
theorem sumE_append (a b : List Ex) : sumE (a ++ b) = sumE a + sumE b := by simp [sumE]
theorem sumP_append (a b : List Pa) : sumP (a ++ b) = sumP a + sumP b := by simp [sumP]
theorem sumE_cons (a : Ex) (b : List Ex) : sumE (a :: b) = bk a.enc + sumE b := by simp [sumE]
theorem sumP_cons (a : Pa) (b : List Pa) : sumP (a :: b) = bk a.enc + sumP b := by simp [sumP]
theorem sumA_cons (a : Pa × Ex) (b : List (Pa × Ex)) : sumA (a :: b) = bk (eArm a) + sumA b := by simp [sumA]
theorem mem_drop {α : Type} {xs : List α} {k : Nat} {y : α} {l : List α} (h : xs.drop k = y :: l) : y ∈ xs := List.mem_of_mem_drop (by rw [h]; simp)
def BIG : Nat := 1048600
theorem len_max {n : Nat} (h : n ≤ BIG) : n ≤ maxLen := by simp [BIG] at h; simp [maxLen]; omega

/-- The answers, by their calls. -/
noncomputable def ansI (f : FuncId) (p : PV) : Int := match (V f [.pv p]).bind retPV with | some r => r.toInt | none => 0
noncomputable def ansL (f : FuncId) (p : PV) : List PV := match (V f [.pv p]).bind retPV with | some r => r.toLst | none => []
theorem ansI_of {f : FuncId} {p : PV} {n : Int} (h : V f [.pv p] = some (.pv (.int .i64 n), [])) : ansI f p = n := by unfold ansI; rw [h]; rfl
theorem ansL_of {f : FuncId} {p : PV} {k : Nat} {l : List PV} (h : V f [.pv p] = some (.bld k l, [])) : ansL f p = l := by unfold ansL; rw [h]; rfl

/-! #### Sizes -/
def okI (f : FuncId) (p : PV) : Prop := V f [.pv p] = some (.pv (.int .i64 (ansI f p)), []) ∧ 0 ≤ ansI f p ∧ ansI f p + 1 ≤ (bk p : Int)
theorem okI.mk' {f : FuncId} {p : PV} {n : Int} (h : V f [.pv p] = some (.pv (.int .i64 n), [])) (h0 : 0 ≤ n) (h1 : n + 1 ≤ (bk p : Int)) : okI f p := by
  unfold okI
  rw [ansI_of h]
  exact ⟨h, h0, h1⟩
end Go.AL.S10
