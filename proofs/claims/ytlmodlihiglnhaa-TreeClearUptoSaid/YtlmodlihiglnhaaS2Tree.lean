/- Expressions as trees (second seat): what they hold; all nodes; how many. -/
import Derived.Test.YtlmodlihiglnhaaS2ETree
import Derived.Test.YtlmodlihiglnhaaALzk
set_option linter.unusedVariables false
set_option linter.unusedSimpArgs false
namespace Go.AL.S2
open Go Go.AL

abbrev Str := List UInt8
inductive Ty where
  | mk (k : Int) (nm : Str) (args : List Ty)
def Ty.kind : Ty → Int | .mk k _ _ => k
def Ty.name : Ty → Str | .mk _ n _ => n
def Ty.args : Ty → List Ty | .mk _ _ a => a
def Ty.enc : Ty → PV
  | .mk k nm args => .agg [.int .i64 k, .str nm, .lst (encs args)]
where encs : List Ty → List PV
  | [] => []
  | t :: l => t.enc :: encs l
theorem encs_map (l : List Ty) : Ty.enc.encs l = l.map Ty.enc := by
  induction l with
  | nil => rfl
  | cons t l ih => simp [Ty.enc.encs, ih]
theorem enc_mk (k : Int) (nm : Str) (args : List Ty) : (Ty.mk k nm args).enc = .agg [.int .i64 k, .str nm, .lst (args.map Ty.enc)] := by rw [Ty.enc, encs_map]
theorem ty_fits (t : Ty) : (Sh.agg [Sh.int .i64, Sh.str, Sh.lst]).fits t.enc = true := by cases t; rfl
theorem ty_k (t : Ty) : (t.enc.c 0).toInt = t.kind := by cases t; rfl
theorem ty_n (t : Ty) : (t.enc.c 1).toStr = t.name := by cases t; rfl
theorem ty_a (t : Ty) : (t.enc.c 2).toLst = t.args.map Ty.enc := by cases t; rw [enc_mk]; rfl
theorem ty_eta (t : Ty) : PV.agg [.int .i64 t.kind, .str t.name, .lst (t.args.map Ty.enc)] = t.enc := by cases t; rw [enc_mk]; rfl

theorem Ty.ind {Q : Ty → Prop} (h : ∀ k nm args, (∀ t, t ∈ args → Q t) → Q (.mk k nm args)) (t : Ty) : Q t := by
  have : ∀ (N : Nat) (t : Ty), SizeOf.sizeOf t < N → Q t := by
    intro N
    induction N with
    | zero => intro t ht; omega
    | succ N ih =>
      rintro ⟨k, nm, args⟩ ht
      refine h k nm args fun t hm => ih t ?_
      have h1 := List.sizeOf_lt_of_mem hm
      simp only [Ty.mk.sizeOf_spec] at ht
      omega
  exact this _ t (Nat.lt_succ_self _)

inductive Pa where
  | mk (k n : Int) (t : List UInt8) (args : List Pa)
mutual
def Pa.cells : Pa → List PV
  | .mk k n t args => [.int .i64 k, .int .i64 n, .str t, .lst (Pa.encs args)]
def Pa.encs : List Pa → List PV
  | [] => []
  | p :: l => .agg p.cells :: Pa.encs l
end
def Pa.enc (p : Pa) : PV := .agg p.cells
def Pa.args : Pa → List Pa | .mk _ _ _ a => a
def Pa.kind : Pa → Int | .mk k _ _ _ => k
def Pa.num : Pa → Int | .mk _ n _ _ => n
def Pa.text : Pa → List UInt8 | .mk _ _ t _ => t
theorem Pa.encs_map (l : List Pa) : Pa.encs l = l.map Pa.enc := by
  induction l with
  | nil => simp [Pa.encs]
  | cons p l ih => simp [Pa.encs, ih, Pa.enc]
theorem pa_cells (p : Pa) : p.cells = [.int .i64 p.kind, .int .i64 p.num, .str p.text, .lst (p.args.map Pa.enc)] := by
  cases p; rw [Pa.cells, Pa.encs_map]; rfl
theorem pa_enc (p : Pa) : p.enc = .agg [.int .i64 p.kind, .int .i64 p.num, .str p.text, .lst (p.args.map Pa.enc)] := by rw [Pa.enc, pa_cells]
theorem pa_fits (p : Pa) : (Sh.agg [Sh.int .i64, Sh.int .i64, Sh.str, Sh.lst]).fits p.enc = true := by rw [pa_enc]; rfl
theorem pa_eta (p : Pa) : PV.agg [.int .i64 (p.enc.c 0).toInt, .int .i64 (p.enc.c 1).toInt, .str (p.enc.c 2).toStr, .lst (p.enc.c 3).toLst] = p.enc := by rw [pa_enc]; rfl
theorem pa_3 (p : Pa) : (p.enc.c 3).toLst = p.args.map Pa.enc := by rw [pa_enc]; rfl

inductive Ex where
  | mk (k n : Int) (t : List UInt8) (ns : List (List UInt8)) (tys : List Ty) (args : List Ex) (arms : List (Pa × Ex)) (at_ : Int)
mutual
def Ex.cells : Ex → List PV
  | .mk k n t ns tys args arms at_ => [.int .i64 k, .int .i64 n, .str t, .lst (ns.map .str), .lst (tys.map Ty.enc), .lst (Ex.encs args), .lst (Ex.encA arms), .int .i64 at_]
def Ex.encs : List Ex → List PV
  | [] => []
  | e :: l => .agg e.cells :: Ex.encs l
def Ex.encA : List (Pa × Ex) → List PV
  | [] => []
  | x :: l => Ex.encP x :: Ex.encA l
def Ex.encP : Pa × Ex → PV
  | (p, e) => .agg (p.cells ++ e.cells)
end
def Ex.enc (e : Ex) : PV := .agg e.cells
def eArm (x : Pa × Ex) : PV := .agg (x.1.cells ++ x.2.cells)
def Ex.kind : Ex → Int | .mk k _ _ _ _ _ _ _ => k
def Ex.num : Ex → Int | .mk _ n _ _ _ _ _ _ => n
def Ex.text : Ex → List UInt8 | .mk _ _ t _ _ _ _ _ => t
def Ex.names : Ex → List (List UInt8) | .mk _ _ _ ns _ _ _ _ => ns
def Ex.types : Ex → List Ty | .mk _ _ _ _ tys _ _ _ => tys
def Ex.args : Ex → List Ex | .mk _ _ _ _ _ args _ _ => args
def Ex.arms : Ex → List (Pa × Ex) | .mk _ _ _ _ _ _ arms _ => arms
def Ex.at_ : Ex → Int | .mk _ _ _ _ _ _ _ a => a
theorem Ex.encs_map (l : List Ex) : Ex.encs l = l.map Ex.enc := by
  induction l with
  | nil => simp [Ex.encs]
  | cons p l ih => simp [Ex.encs, ih, Ex.enc]
theorem Ex.encA_map (l : List (Pa × Ex)) : Ex.encA l = l.map eArm := by
  induction l with
  | nil => simp [Ex.encA]
  | cons p l ih => obtain ⟨p, e⟩ := p; simp [Ex.encA, ih, Ex.encP, eArm]
theorem ex_cells (e : Ex) : e.cells = [.int .i64 e.kind, .int .i64 e.num, .str e.text, .lst (e.names.map .str), .lst (e.types.map Ty.enc), .lst (e.args.map Ex.enc), .lst (e.arms.map eArm), .int .i64 e.at_] := by
  cases e; rw [Ex.cells, Ex.encs_map, Ex.encA_map]; rfl
theorem ex_enc (e : Ex) : e.enc = .agg [.int .i64 e.kind, .int .i64 e.num, .str e.text, .lst (e.names.map .str), .lst (e.types.map Ty.enc), .lst (e.args.map Ex.enc), .lst (e.arms.map eArm), .int .i64 e.at_] := by rw [Ex.enc, ex_cells]
theorem arm_enc (x : Pa × Ex) : eArm x = .agg [.int .i64 x.1.kind, .int .i64 x.1.num, .str x.1.text, .lst (x.1.args.map Pa.enc), .int .i64 x.2.kind, .int .i64 x.2.num, .str x.2.text, .lst (x.2.names.map .str), .lst (x.2.types.map Ty.enc), .lst (x.2.args.map Ex.enc), .lst (x.2.arms.map eArm), .int .i64 x.2.at_] := by rw [eArm, pa_cells, ex_cells]; rfl
theorem ex_fits (e : Ex) : (Sh.agg [Sh.int .i64, Sh.int .i64, Sh.str, Sh.lst, Sh.lst, Sh.lst, Sh.lst, Sh.int .i64]).fits e.enc = true := by rw [ex_enc]; rfl
theorem arm_fits (x : Pa × Ex) : (Sh.agg [Sh.int .i64, Sh.int .i64, Sh.str, Sh.lst, Sh.int .i64, Sh.int .i64, Sh.str, Sh.lst, Sh.lst, Sh.lst, Sh.lst, Sh.int .i64]).fits (eArm x) = true := by rw [arm_enc]; rfl
theorem ex_eta (e : Ex) : PV.agg [.int .i64 (e.enc.c 0).toInt, .int .i64 (e.enc.c 1).toInt, .str (e.enc.c 2).toStr, .lst (e.enc.c 3).toLst, .lst (e.enc.c 4).toLst, .lst (e.enc.c 5).toLst, .lst (e.enc.c 6).toLst, .int .i64 (e.enc.c 7).toInt] = e.enc := by rw [ex_enc]; rfl
theorem arm_ex (x : Pa × Ex) : PV.agg [.int .i64 ((eArm x).c 4).toInt, .int .i64 ((eArm x).c 5).toInt, .str ((eArm x).c 6).toStr, .lst ((eArm x).c 7).toLst, .lst ((eArm x).c 8).toLst, .lst ((eArm x).c 9).toLst, .lst ((eArm x).c 10).toLst, .int .i64 ((eArm x).c 11).toInt] = x.2.enc := by rw [arm_enc, ex_enc]; rfl
theorem arm_pa (x : Pa × Ex) : PV.agg [.int .i64 ((eArm x).c 0).toInt, .int .i64 ((eArm x).c 1).toInt, .str ((eArm x).c 2).toStr, .lst ((eArm x).c 3).toLst] = x.1.enc := by rw [arm_enc, pa_enc]; rfl
theorem ex_0 (e : Ex) : (e.enc.c 0).toInt = e.kind := by rw [ex_enc]; rfl
theorem ex_1 (e : Ex) : (e.enc.c 1).toInt = e.num := by rw [ex_enc]; rfl
theorem ex_2 (e : Ex) : (e.enc.c 2).toStr = e.text := by rw [ex_enc]; rfl
theorem ex_3 (e : Ex) : (e.enc.c 3).toLst = e.names.map .str := by rw [ex_enc]; rfl
theorem ex_4 (e : Ex) : (e.enc.c 4).toLst = e.types.map Ty.enc := by rw [ex_enc]; rfl
theorem ex_5 (e : Ex) : (e.enc.c 5).toLst = e.args.map Ex.enc := by rw [ex_enc]; rfl
theorem ex_6 (e : Ex) : (e.enc.c 6).toLst = e.arms.map eArm := by rw [ex_enc]; rfl
theorem ex_7 (e : Ex) : (e.enc.c 7).toInt = e.at_ := by rw [ex_enc]; rfl

theorem Pa.ind {Q : Pa → Prop} (h : ∀ p, (∀ q, q ∈ p.args → Q q) → Q p) (p : Pa) : Q p := by
  have : ∀ (N : Nat) (p : Pa), SizeOf.sizeOf p < N → Q p := by
    intro N
    induction N with
    | zero => intro t ht; omega
    | succ N ih =>
      rintro ⟨k, n, t, args⟩ ht
      refine h _ fun t hm => ih t ?_
      have h1 := List.sizeOf_lt_of_mem (show t ∈ args from hm)
      simp only [Pa.mk.sizeOf_spec] at ht
      omega
  exact this _ p (Nat.lt_succ_self _)
theorem Ex.ind {Q : Ex → Prop} (h : ∀ e, (∀ a, a ∈ e.args → Q a) → (∀ x, x ∈ e.arms → Q x.2) → Q e) (e : Ex) : Q e := by
  have : ∀ (N : Nat) (e : Ex), SizeOf.sizeOf e < N → Q e := by
    intro N
    induction N with
    | zero => intro t ht; omega
    | succ N ih =>
      rintro ⟨k, n, t, ns, tys, args, arms, at_⟩ ht
      simp only [Ex.mk.sizeOf_spec] at ht
      refine h _ (fun t hm => ih t ?_) fun x hm => ih x.2 ?_
      · have h1 := List.sizeOf_lt_of_mem (show t ∈ args from hm)
        omega
      · have h1 := List.sizeOf_lt_of_mem (show x ∈ arms from hm)
        obtain ⟨p, e⟩ := x
        simp only [Prod.mk.sizeOf_spec] at h1
        simp only
        omega
  exact this _ e (Nat.lt_succ_self _)

/-! #### How much they hold -/
theorem le_sum {l : List Nat} {n : Nat} (h : n ∈ l) : n ≤ l.sum := by
  induction l with
  | nil => cases h
  | cons a l ih =>
    simp only [List.sum_cons]
    rcases List.mem_cons.1 h with rfl | h
    · omega
    · have := ih h; omega
def sumE (l : List Ex) : Nat := (l.map fun x => bk x.enc).sum
def sumP (l : List Pa) : Nat := (l.map fun x => bk x.enc).sum
def sumA (l : List (Pa × Ex)) : Nat := (l.map fun x => bk (eArm x)).sum
theorem bk_pa (p : Pa) : sumP p.args + 2 ≤ bk p.enc := by
  unfold sumP
  rw [pa_enc]
  simp only [bk, bkL, bkL_map]
  omega
theorem bk_ex (e : Ex) : sumE e.args + sumA e.arms + 2 ≤ bk e.enc := by
  unfold sumE sumA
  rw [ex_enc]
  simp only [bk, bkL, bkL_map]
  omega
theorem bk_arm (x : Pa × Ex) : bk (eArm x) + 1 = bk x.1.enc + bk x.2.enc := by
  unfold Pa.enc Ex.enc eArm
  simp only [bk, bkL_append]
  omega
theorem bk_args {e a : Ex} (h : a ∈ e.args) : bk a.enc + 2 ≤ bk e.enc := by
  have h1 := bk_ex e
  have : bk a.enc ≤ sumE e.args := by
    unfold sumE
    exact le_sum (List.mem_map.2 ⟨a, h, rfl⟩)
  omega
theorem bk_arms' {e : Ex} {x : Pa × Ex} (h : x ∈ e.arms) : bk (eArm x) + 2 ≤ bk e.enc := by
  have h1 := bk_ex e
  have : bk (eArm x) ≤ sumA e.arms := by
    unfold sumA
    exact le_sum (List.mem_map.2 ⟨x, h, rfl⟩)
  omega
theorem bk_pos (p : Pa) : 2 ≤ bk p.enc := by have := bk_pa p; omega
theorem bkE_pos (e : Ex) : 2 ≤ bk e.enc := by have := bk_ex e; omega
theorem bk_arms {e : Ex} {x : Pa × Ex} (h : x ∈ e.arms) : bk x.2.enc ≤ bk e.enc ∧ bk x.1.enc ≤ bk e.enc := by
  have h1 := bk_arms' h
  have h2 := bk_arm x
  have h3 := bk_pos x.1
  have h4 := bkE_pos x.2
  constructor <;> omega
theorem len_sumE (l : List Ex) : l.length ≤ sumE l := by
  induction l with
  | nil => simp [sumE]
  | cons e l ih => have := bkE_pos e; simp only [sumE, List.map_cons, List.sum_cons, List.length_cons] at ih ⊢; omega
theorem len_sumA (l : List (Pa × Ex)) : l.length ≤ sumA l := by
  induction l with
  | nil => simp [sumA]
  | cons e l ih => have h1 := bk_arm e; have h2 := bkE_pos e.2; have h3 := bk_pos e.1; simp only [sumA, List.map_cons, List.sum_cons, List.length_cons] at ih ⊢; omega
theorem len_sumP (l : List Pa) : l.length ≤ sumP l := by
  induction l with
  | nil => simp [sumP]
  | cons e l ih => have := bk_pos e; simp only [sumP, List.map_cons, List.sum_cons, List.length_cons] at ih ⊢; omega
theorem sumE_append (a b : List Ex) : sumE (a ++ b) = sumE a + sumE b := by simp [sumE]
theorem sumP_append (a b : List Pa) : sumP (a ++ b) = sumP a + sumP b := by simp [sumP]
theorem sumE_cons (a : Ex) (b : List Ex) : sumE (a :: b) = bk a.enc + sumE b := by simp [sumE]
theorem sumP_cons (a : Pa) (b : List Pa) : sumP (a :: b) = bk a.enc + sumP b := by simp [sumP]
theorem sumA_cons (a : Pa × Ex) (b : List (Pa × Ex)) : sumA (a :: b) = bk (eArm a) + sumA b := by simp [sumA]
theorem mem_drop {α : Type} {xs : List α} {k : Nat} {y : α} {l : List α} (h : xs.drop k = y :: l) : y ∈ xs := List.mem_of_mem_drop (by rw [h]; simp)
def BIG : Nat := 1048576
theorem len_max {n : Nat} (h : n ≤ BIG) : n ≤ maxLen := by simp [BIG] at h; simp [maxLen]; omega

def parts (e : Ex) : List Ex := e.args ++ e.arms.map (·.2)
theorem sumE_snd (l : List (Pa × Ex)) : sumE (l.map (·.2)) ≤ sumA l := by
  induction l with
  | nil => simp [sumE, sumA]
  | cons x l ih =>
    have h1 := bk_arm x
    have h2 := bk_pos x.1
    rw [List.map_cons, sumE_cons, sumA_cons]; omega
theorem sumE_parts (e : Ex) : sumE (parts e) + 2 ≤ bk e.enc := by
  have h1 := bk_ex e
  have h2 := sumE_snd e.arms
  unfold parts
  rw [sumE_append]; omega
theorem headOk_ex (l : List Ex) : headOk 8 (l.map Ex.enc) = true := by
  cases l with
  | nil => rfl
  | cons e l => simp [headOk, ex_enc, PV.cells]
theorem headOk_pa (l : List Pa) : headOk 4 (l.map Pa.enc) = true := by
  cases l with
  | nil => rfl
  | cons e l => simp [headOk, pa_enc, PV.cells]
theorem mem_parts {e a : Ex} (h : a ∈ parts e) : bk a.enc + 2 ≤ bk e.enc := by
  have h1 := sumE_parts e
  have : bk a.enc ≤ sumE (parts e) := le_sum (List.mem_map.2 ⟨a, h, rfl⟩)
  omega
theorem Ex.indP {Q : Ex → Prop} (h : ∀ e, (∀ a, a ∈ parts e → Q a) → Q e) (e : Ex) : Q e :=
  Ex.ind (fun e i1 i2 => h e fun a ha => by
    unfold parts at ha
    rcases List.mem_append.1 ha with ha | ha
    · exact i1 a ha
    · obtain ⟨x, hx, rfl⟩ := List.mem_map.1 ha
      exact i2 x hx) e
theorem l37 : ∀ (N : Nat) (rest done : List Pa), sumP rest ≤ N → done.length + sumP rest ≤ 2 * BIG → ∃ r : List Pa, L37_11014 ((done ++ rest).map Pa.enc) (done.length : Nat) = some (.bld 4 (r.map Pa.enc), []) ∧ r.length ≤ done.length + sumP rest
  | N, [], done, _, _ => ⟨done, by rw [e37_11014, endK_map (by simp)]; simp, by simp [sumP]⟩
  | 0, x :: rest, done, h, _ => by rw [sumP_cons] at h; have := bk_pos x; omega
  | N + 1, x :: rest, done, h, hb => by
    have hxs : (done ++ x :: rest).drop done.length = x :: rest := by simp
    rw [sumP_cons] at h hb
    have hx := bk_pa x
    have hl1 := len_sumP rest
    have hl2 := len_sumP x.args
    have hlen : (done ++ x :: rest).length ≤ maxLen := by simp only [BIG] at hb; simp [maxLen]; omega
    have A := atK_map (f := Pa.enc) hxs hlen
    have A' := atK hxs hlen
    obtain ⟨r, g1, g2⟩ := l37 N (rest ++ x.args) (done ++ [x]) (by rw [sumP_append]; omega) (by rw [sumP_append]; simp; omega)
    refine ⟨r, ?_, by rw [sumP_append] at g2; rw [sumP_cons]; simp at g2; omega⟩
    have hsm : small ((done ++ x :: rest).map Pa.enc).length (x.args.map Pa.enc).length 56 = true := small_of (by simp only [BIG] at hb; simp; omega)
    rw [e37_11014]
    simp only [A.lt, A.ge, A.get, A.next, cond_true, Option.bind_some]
    simp only [pa_fits, pa_3, cond_true, headOk_pa, hsm]
    rw [show (done ++ x :: rest).map Pa.enc ++ x.args.map Pa.enc = ((done ++ [x]) ++ (rest ++ x.args)).map Pa.enc by simp, show ((done.length + 1 : Nat) : Int) = (((done ++ [x]).length : Nat) : Int) by simp]
    exact g1
theorem v37 {p : Pa} (hb : bk p.enc ≤ BIG) : ∃ r : List Pa, V 37 [.pv p.enc] = some (.bld 4 (r.map Pa.enc), []) ∧ r.length ≤ BIG := by
  obtain ⟨r, g1, g2⟩ := l37 _ [p] [] (Nat.le_refl _) (by rw [sumP_cons]; simp [sumP]; simp only [BIG] at hb ⊢; omega)
  refine ⟨r, ?_, by rw [sumP_cons] at g2; simp [sumP] at g2; omega⟩
  have he := pa_enc p
  rw [he, e37, ← he]
  exact g1
theorem l36b (e : Ex) {out : List Ex} (hb : bk e.enc ≤ BIG) : ∀ (n : Nat) (st : List Ex), n ≤ e.args.length → st.length + n ≤ 2 * BIG →
    L36_11104514111114 (out.map Ex.enc) ((n : Int) - 1) e.kind e.num e.text (e.names.map .str) (e.types.map Ty.enc) (e.args.map Ex.enc) (e.arms.map eArm) e.at_ (st.map Ex.enc) = L36_11104 (out.map Ex.enc) ((st ++ (e.args.take n).reverse).map Ex.enc)
  | 0, st, _, _ => by
    rw [e36_11104514111114, show decide (((0 : Nat) : Int) - 1 ≥ 0) = false from rfl]
    simp
  | n + 1, st, hn, hst => by
    have hlt : n < e.args.length := by omega
    have ih := l36b e (out := out) hb n (st ++ [e.args[n]]) (by omega) (by simp; omega)
    have hsm : small (st.map Ex.enc).length 1 136 = true := small_of (by simp only [BIG] at hst; simp; omega)
    have hlen : e.args.length ≤ BIG := by have := bk_ex e; have := len_sumE e.args; omega
    have e1 : (((n + 1 : Nat) : Int) - 1) = (n : Int) := by omega
    have e2 : IntKind.i64.wrap ((n : Int) - 1) = (n : Int) - 1 := wrap_i64 (by omega) (by simp only [BIG] at hlen; omega)
    have hg : (e.args.map Ex.enc)[((n : Nat) : Int).toNat]? = some (e.args[n]).enc := by simp [List.getElem?_eq_getElem hlt]
    rw [e36_11104514111114, e1, show decide ((n : Int) ≥ 0) = true from decide_eq_true (by omega), hg, e2]
    simp only [cond_true, Option.bind_some, decide_eq_true (show (0 : Int) ≤ (n : Int) by omega), ex_fits, ex_eta, hsm]
    rw [show st.map Ex.enc ++ [(e.args[n]).enc] = (st ++ [e.args[n]]).map Ex.enc by simp, ih]
    have : e.args.take (n + 1) = e.args.take n ++ [e.args[n]] := by rw [List.take_add_one, List.getElem?_eq_getElem hlt]; rfl
    rw [this, List.reverse_append, List.append_assoc]
    rfl
theorem l36a (e : Ex) {out : List Ex} (hb : bk e.enc ≤ BIG) : ∀ (n : Nat) (st : List Ex), n ≤ e.arms.length → st.length + n ≤ 2 * BIG → st.length + n + e.args.length ≤ 2 * BIG →
    L36_11104514111014 (out.map Ex.enc) ((n : Int) - 1) e.kind e.num e.text (e.names.map .str) (e.types.map Ty.enc) (e.args.map Ex.enc) (e.arms.map eArm) e.at_ (st.map Ex.enc) = L36_11104 (out.map Ex.enc) ((st ++ ((e.arms.take n).map (·.2)).reverse ++ e.args.reverse).map Ex.enc)
  | 0, st, _, _, h3 => by
    have hlen : e.args.length ≤ BIG := by have := bk_ex e; have := len_sumE e.args; omega
    rw [e36_11104514111014, show decide (((0 : Nat) : Int) - 1 ≥ 0) = false from rfl]
    simp only [cond_false, List.length_map]
    rw [wrap_i64 (by omega) (by simp only [BIG] at hlen; omega), l36b e hb e.args.length st (Nat.le_refl _) (by omega)]
    simp
  | n + 1, st, hn, hst, h3 => by
    have hlt : n < e.arms.length := by omega
    have ih := l36a e (out := out) hb n (st ++ [(e.arms[n]).2]) (by omega) (by simp; omega) (by simp; omega)
    have hsm : small (st.map Ex.enc).length 1 136 = true := small_of (by simp only [BIG] at hst; simp; omega)
    have hlen : e.arms.length ≤ BIG := by have := bk_ex e; have := len_sumA e.arms; omega
    have e1 : (((n + 1 : Nat) : Int) - 1) = (n : Int) := by omega
    have e2 : IntKind.i64.wrap ((n : Int) - 1) = (n : Int) - 1 := wrap_i64 (by omega) (by simp only [BIG] at hlen; omega)
    have hg : (e.arms.map eArm)[((n : Nat) : Int).toNat]? = some (eArm e.arms[n]) := by simp [List.getElem?_eq_getElem hlt]
    rw [e36_11104514111014, e1, show decide ((n : Int) ≥ 0) = true from decide_eq_true (by omega), hg, e2]
    simp only [cond_true, Option.bind_some, decide_eq_true (show (0 : Int) ≤ (n : Int) by omega), arm_fits, arm_ex, hsm]
    rw [show st.map Ex.enc ++ [(e.arms[n]).2.enc] = (st ++ [(e.arms[n]).2]).map Ex.enc by simp, ih]
    have : e.arms.take (n + 1) = e.arms.take n ++ [e.arms[n]] := by rw [List.take_add_one, List.getElem?_eq_getElem hlt]; rfl
    have e3 : ((e.arms.take (n + 1)).map (·.2)).reverse = [(e.arms[n]).2] ++ ((e.arms.take n).map (·.2)).reverse := by rw [this, List.map_append, List.reverse_append]; rfl
    rw [e3]
    simp only [List.append_assoc]
theorem l36 {M : Nat} (hM : M ≤ BIG) : ∀ (N : Nat) (st out : List Ex), sumE st ≤ N → out.length + sumE st ≤ M → (∀ x, x ∈ st → bk x.enc ≤ M) → (∀ x, x ∈ out → bk x.enc ≤ M) →
    ∃ r : List Ex, L36_11104 (out.map Ex.enc) (st.map Ex.enc) = some (.bld 8 (r.map Ex.enc), []) ∧ r.length ≤ out.length + sumE st ∧ ∀ x, x ∈ r → bk x.enc ≤ M := by
    intro N
    induction N using Nat.strongRecOn with
    | _ N ih =>
    intro st out hN hb h1 h2
    rcases List.eq_nil_or_concat st with rfl | ⟨st', y, rfl⟩
    · refine ⟨out, ?_, by simp [sumE], h2⟩
      rw [e36_11104]
      rfl
    · rw [List.concat_eq_append] at *
      have hsum : sumE (st' ++ [y]) = sumE st' + bk y.enc := by rw [sumE_append, sumE_cons]; simp [sumE]
      rw [hsum] at hN hb
      have hyb : bk y.enc ≤ M := h1 y (by simp)
      have hpy := bk_ex y
      have hl0 := len_sumE st'
      have hl1 := len_sumE y.args
      have hl2 := len_sumA y.arms
      have hp2 := sumE_snd y.arms
      obtain ⟨r, g1, g2, g3⟩ := ih (N - 1) (by omega) (st' ++ (y.arms.map (·.2)).reverse ++ y.args.reverse) (out ++ [y])
        (by
          have e1 : sumE (y.arms.map (·.2)).reverse = sumE (y.arms.map (·.2)) := by unfold sumE; rw [List.map_reverse, List.sum_reverse]
          have e2 : sumE y.args.reverse = sumE y.args := by unfold sumE; rw [List.map_reverse, List.sum_reverse]
          rw [sumE_append, sumE_append, e1, e2]; omega)
        (by
          have e1 : sumE (y.arms.map (·.2)).reverse = sumE (y.arms.map (·.2)) := by unfold sumE; rw [List.map_reverse, List.sum_reverse]
          have e2 : sumE y.args.reverse = sumE y.args := by unfold sumE; rw [List.map_reverse, List.sum_reverse]
          rw [sumE_append, sumE_append, e1, e2]; simp; omega)
        (by
          intro x hx
          simp only [List.mem_append, List.mem_reverse, List.mem_map] at hx
          rcases hx with (hx | ⟨z, hz, rfl⟩) | hx
          · exact h1 x (by simp [hx])
          · exact Nat.le_trans (bk_arms hz).1 hyb
          · have := bk_args hx; omega)
        (by
          intro x hx
          rcases List.mem_append.1 hx with hx | hx
          · exact h2 x hx
          · obtain rfl := List.mem_singleton.1 hx; exact hyb)
      refine ⟨r, ?_, ?_, g3⟩
      · have hlen : ((st' ++ [y]).map Ex.enc).length = st'.length + 1 := by simp
        have e1 : IntKind.i64.wrap (((st'.length + 1 : Nat) : Int) - 1) = (st'.length : Int) := by rw [wrap_i64 (by omega) (by simp only [BIG] at hM; omega)]; omega
        have hg : ((st' ++ [y]).map Ex.enc)[((st'.length : Nat) : Int).toNat]? = some y.enc := by simp
        have ht : ((st' ++ [y]).map Ex.enc).take ((st'.length : Nat) : Int).toNat = st'.map Ex.enc := by simp
        have hsm : small (out.map Ex.enc).length 1 136 = true := small_of (by simp only [BIG] at hM; simp; omega)
        have harm := l36a y (out := out ++ [y]) (by omega) y.arms.length st' (Nat.le_refl _) (by simp only [BIG] at hM ⊢; omega) (by simp only [BIG] at hM ⊢; omega)
        rw [e36_11104, hlen, e1, hg, ht]
        simp only [decide_eq_true (show ((st'.length + 1 : Nat) : Int) > 0 by omega), decide_eq_true (show (0 : Int) ≤ (st'.length : Int) by omega), decide_eq_true (show (st'.length : Int) < ((st'.length + 1 : Nat) : Int) by omega), decide_eq_true (show (st'.length : Int) ≤ ((st'.length + 1 : Nat) : Int) by omega), cond_true, Bool.and_self, Option.bind_some, ex_fits, ex_eta, hsm]
        simp only [ex_0, ex_1, ex_2, ex_3, ex_4, ex_5, ex_6, ex_7, List.length_map]
        rw [wrap_i64 (by omega) (by simp only [BIG] at hM; omega), show out.map Ex.enc ++ [y.enc] = (out ++ [y]).map Ex.enc by simp, harm, List.take_length]
        exact g1
      · have e1 : sumE (y.arms.map (·.2)).reverse = sumE (y.arms.map (·.2)) := by unfold sumE; rw [List.map_reverse, List.sum_reverse]
        have e2 : sumE y.args.reverse = sumE y.args := by unfold sumE; rw [List.map_reverse, List.sum_reverse]
        rw [sumE_append, sumE_append, e1, e2] at g2
        rw [hsum]
        simp at g2; omega
theorem v36 {e : Ex} (hb : bk e.enc ≤ BIG) : ∃ r : List Ex, V 36 [.pv e.enc] = some (.bld 8 (r.map Ex.enc), []) ∧ r.length ≤ BIG ∧ ∀ x, x ∈ r → bk x.enc ≤ BIG := by
  have hs : sumE [e] = bk e.enc := by rw [sumE_cons]; simp [sumE]
  obtain ⟨r, g1, g2, g3⟩ := l36 (M := BIG) (Nat.le_refl _) _ [e] [] (Nat.le_refl _) (by rw [hs]; simpa using hb) (by simpa using hb) (by simp)
  refine ⟨r, ?_, by rw [hs] at g2; simp at g2; omega, g3⟩
  have he := ex_enc e
  rw [he, e36, ← he]
  exact g1
theorem l13b {v : List PV} {arms : List (Pa × Ex)} (hl : arms.length ≤ BIG) (hb : ∀ x, x ∈ arms → bk x.1.enc ≤ BIG) (i2 : Int) : ∀ (l : List (Pa × Ex)) (k : Nat) (i : Int), arms.drop k = l → 0 ≤ i → i + l.length * 1048576 ≤ 4611686018427387904 →
    ∃ j, L13_11014511041114 i v i2 (arms.map eArm) k = L13_11014 j v (IntKind.i64.wrap (i2 + 1)) ∧ i ≤ j ∧ j ≤ i + l.length * 1048576
  | [], k, i, h, _, _ => ⟨i, by rw [e13_11014511041114, endK_map h]; rfl, by omega, by simp⟩
  | x :: l, k, i, h, h0, h1 => by
    have A := atK_map (f := eArm) h (len_max hl)
    have A' := atK h (len_max hl)
    obtain ⟨r, hv, hr⟩ := v37 (hb x (mem_drop h))
    rw [List.length_cons] at h1 ⊢
    simp only [BIG] at hr
    have hw : IntKind.i64.wrap (i + (r.length : Int)) = i + r.length := wrap_i64 (by omega) (by omega)
    obtain ⟨j, g1, g2, g3⟩ := l13b (v := v) hl hb i2 l (k + 1) (i + r.length) A'.drop (by omega) (by omega)
    refine ⟨j, ?_, by omega, by omega⟩
    rw [e13_11014511041114]
    simp only [A.lt, A.ge, A.get, A.next, cond_true, Option.bind_some]
    simp only [arm_fits, arm_pa, cond_true, hv, Option.bind_some, retPV_bld, fits_lstS, toLst_lst, List.length_map, hw]
    exact g1
theorem l13 {P : List Ex} (hl : P.length ≤ BIG) (hb : ∀ x, x ∈ P → bk x.enc ≤ BIG) : ∀ (l : List Ex) (k : Nat) (i : Int), P.drop k = l → 0 ≤ i → i + l.length * 1099511627777 ≤ 2305843009213693952 →
    ∃ j, L13_11014 i (P.map Ex.enc) k = some (.pv (.int .i64 j), []) ∧ i ≤ j ∧ j ≤ i + l.length * 1099511627777
  | [], k, i, h, _, _ => ⟨i, by rw [e13_11014, endK_map h]; rfl, by omega, by simp⟩
  | x :: l, k, i, h, h0, h1 => by
    have A := atK_map (f := Ex.enc) h (len_max hl)
    have A' := atK h (len_max hl)
    have hbx := hb x (mem_drop h)
    have h3 := len_sumA x.arms
    have h4 := bk_ex x
    rw [List.length_cons] at h1 ⊢
    have hbx' := hbx
    simp only [BIG] at hbx'
    have hw : IntKind.i64.wrap (i + 1) = i + 1 := wrap_i64 (by omega) (by omega)
    obtain ⟨j, g1, g2, g3⟩ := l13b (v := P.map Ex.enc) (arms := x.arms) (by omega) (fun y hy => Nat.le_trans (bk_arms hy).2 hbx) (k : Int) x.arms 0 (i + 1) rfl (by omega) (by omega)
    obtain ⟨j', k1, k2, k3⟩ := l13 hl hb l (k + 1) j A'.drop (by omega) (by omega)
    refine ⟨j', ?_, by omega, by omega⟩
    rw [e13_11014]
    simp only [A.lt, A.ge, A.get, cond_true, Option.bind_some]
    simp only [ex_fits, ex_6, cond_true, hw]
    rw [A.next] at g1
    exact g1.trans k1
theorem v13 {e : Ex} (hb : bk e.enc ≤ BIG) : ∃ n : Int, V 13 [.pv e.enc] = some (.pv (.int .i64 n), []) ∧ 0 ≤ n ∧ n ≤ 1152921505680588800 := by
  obtain ⟨r, hv, hr, hx⟩ := v36 hb
  have hr' := hr
  simp only [BIG] at hr'
  obtain ⟨j, g1, g2, g3⟩ := l13 hr hx r 0 0 rfl (by omega) (by omega)
  have he := ex_enc e
  refine ⟨j, ?_, g2, by omega⟩
  rw [he] at hv ⊢
  rw [e13, hv]
  simp only [Option.bind_some, retPV_bld, fits_lstS, toLst_lst, cond_true]
  exact g1

end Go.AL.S2
