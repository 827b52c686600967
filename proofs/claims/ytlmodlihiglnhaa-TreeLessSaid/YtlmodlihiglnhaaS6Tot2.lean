/- The checks of a program come to an end: patterns and expressions. -/
import Derived.Test.YtlmodlihiglnhaaS6Tree
set_option linter.unusedVariables false
set_option linter.unusedSimpArgs false
set_option maxRecDepth 100000
namespace Go.AL.S6
open Go Go.AL

inductive Okp : Pa → Prop where
  | mk {p : Pa} : p.args.length ≤ maxLen → (∀ q, q ∈ p.args → Okp q) → Okp p
theorem Okp.len {p : Pa} (h : Okp p) : p.args.length ≤ maxLen := by cases h; assumption
theorem Okp.sub {p : Pa} (h : Okp p) : ∀ q, q ∈ p.args → Okp q := by cases h; assumption
def OkTs (l : List PV) : Prop := ∃ ts : List Ty, l = ts.map Ty.enc ∧ ts.length * 48 ≤ reachBytes ∧ ts.length ≤ maxLen ∧ ∀ t, t ∈ ts → Okt t
inductive Okx : Ex → Prop where
  | mk {e : Ex} : e.names.length ≤ maxLen → OkTs e.types → e.args.length ≤ maxLen → e.arms.length ≤ maxLen → (∀ a, a ∈ e.args → Okx a) → (∀ x, x ∈ e.arms → Okp x.1) → (∀ x, x ∈ e.arms → Okx x.2) → Okx e
theorem Okx.nms {e : Ex} (h : Okx e) : e.names.length ≤ maxLen := by cases h; assumption
theorem Okx.tys {e : Ex} (h : Okx e) : OkTs e.types := by cases h; assumption
theorem Okx.ars {e : Ex} (h : Okx e) : e.args.length ≤ maxLen := by cases h; assumption
theorem Okx.rms {e : Ex} (h : Okx e) : e.arms.length ≤ maxLen := by cases h; assumption
theorem Okx.sub {e : Ex} (h : Okx e) : ∀ a, a ∈ e.args → Okx a := by cases h; assumption
theorem Okx.pas {e : Ex} (h : Okx e) : ∀ x, x ∈ e.arms → Okp x.1 := by cases h; assumption
theorem Okx.exs {e : Ex} (h : Okx e) : ∀ x, x ∈ e.arms → Okx x.2 := by cases h; assumption
theorem t107' {l : List PV} (h : OkTs l) (deep : Int) : isI (V 107 [.pv (.lst l), .pv (.int .i64 deep)]) := by
  obtain ⟨ts, rfl, _, hl, ho⟩ := h
  exact t107 hl ho deep

/-! #### Patterns: sizes, depths, checks -/
theorem l142 {args : List Pa} (hl : args.length ≤ maxLen) (hs : ∀ q, q ∈ args → isI (V 142 [.pv q.enc])) : ∀ (l : List Pa) (k : Nat) (i : Int), args.drop k = l → isI (L142_11014 i (args.map Pa.enc) k)
  | [], k, i, h => by rw [e142_11014, endK_map h]; exact .mk _
  | x :: l, k, i, h => by
    have A := atK_map (f := Pa.enc) h hl
    have A' := atK h hl
    have ih := fun i => l142 hl hs l (k + 1) i A'.drop
    rw [e142_11014]
    simp only [A.lt, A.ge, A.get, A.next, cond_true, Option.bind_some]
    simp only [pa_fits, pa_eta, cond_true]
    refine .ofI (hs x (mem_drop h)) fun n => ?_
    simp only [fits_i64, toInt_int, cond_true]
    exact ih _
theorem t142 {p : Pa} : Okp p → isI (V 142 [.pv p.enc]) := by
  refine Pa.ind (Q := fun p => Okp p → isI (V 142 [.pv p.enc])) (fun p ih hp => ?_) p
  rw [pa_enc, e142]
  exact l142 hp.len (fun q hq => ih q hq (hp.sub q hq)) p.args 0 _ rfl
theorem l75 {args : List Pa} (hl : args.length ≤ maxLen) (hs : ∀ q, q ∈ args → isI (V 75 [.pv q.enc])) : ∀ (l : List Pa) (k : Nat) (i : Int), args.drop k = l → isI (L75_11014 i (args.map Pa.enc) k)
  | [], k, i, h => by rw [e75_11014, endK_map h]; exact .mk _
  | x :: l, k, i, h => by
    have A := atK_map (f := Pa.enc) h hl
    have A' := atK h hl
    have ih := fun i => l75 hl hs l (k + 1) i A'.drop
    rw [e75_11014]
    simp only [A.lt, A.ge, A.get, A.next, cond_true, Option.bind_some]
    simp only [pa_fits, pa_eta, cond_true]
    refine .ofI (hs x (mem_drop h)) fun n => ?_
    simp only [fits_i64, toInt_int, cond_true]
    exact ih _
theorem t75 {p : Pa} : Okp p → isI (V 75 [.pv p.enc]) := by
  refine Pa.ind (Q := fun p => Okp p → isI (V 75 [.pv p.enc])) (fun p ih hp => ?_) p
  rw [pa_enc, e75]
  exact l75 hp.len (fun q hq => ih q hq (hp.sub q hq)) p.args 0 _ rfl
theorem l146 {args : List Pa} (hl : args.length ≤ maxLen) (hs : ∀ q, q ∈ args → isI (V 146 [.pv q.enc])) : ∀ (l : List Pa) (k : Nat), args.drop k = l → isI (L146_11111014 (args.map Pa.enc) k)
  | [], k, h => by rw [e146_11111014, endK_map h]; exact .mk _
  | x :: l, k, h => by
    have A := atK_map (f := Pa.enc) h hl
    have A' := atK h hl
    have ih := l146 hl hs l (k + 1) A'.drop
    rw [e146_11111014]
    simp only [A.lt, A.ge, A.get, A.next, cond_true, Option.bind_some]
    simp only [pa_fits, pa_eta, cond_true]
    refine .ofI (hs x (mem_drop h)) fun n => ?_
    simp only [fits_i64, toInt_int, cond_true]
    exact .bif (.mk _) ih
theorem t146 {p : Pa} : Okp p → isI (V 146 [.pv p.enc]) := by
  refine Pa.ind (Q := fun p => Okp p → isI (V 146 [.pv p.enc])) (fun p ih hp => ?_) p
  have h0 : isI (L146_11111014 (p.args.map Pa.enc) 0) := l146 hp.len (fun q hq => ih q hq (hp.sub q hq)) p.args 0 rfl
  have h1 : ∀ b, isI (L146_1116 b p.kind p.num p.text (p.args.map Pa.enc)) := fun b => by
    rw [e146_1116]
    repeat' (first | exact .mk _ | exact h0 | refine .bif ?_ ?_)
  have h2 : ∀ b, isI (L146_11014131313131216 b p.kind p.num p.text (p.args.map Pa.enc)) := fun b => by
    rw [e146_11014131313131216]
    repeat' (first | exact .mk _ | exact h1 _ | refine .bif ?_ ?_)
  have h3 : ∀ b, isI (L146_116 b p.kind p.num p.text (p.args.map Pa.enc)) := fun b => by
    rw [e146_116]
    repeat' (first | exact .mk _ | exact h1 _ | exact h2 _ | refine .bif ?_ ?_ | (refine .ofB (t65 _) fun b => ?_; simp only [fits_bool, toBool_bool, cond_true]) | (refine .ofB (t105 _) fun b => ?_; simp only [fits_bool, toBool_bool, cond_true]))
  rw [pa_enc, e146]
  exact .bif (h3 _) (h3 _)

/-! #### Expressions: sizes and depths -/
theorem l133b {arms : List (Pa × Ex)} (hl : arms.length ≤ maxLen) (hp : ∀ x, x ∈ arms → Okp x.1) (hs : ∀ x, x ∈ arms → isI (V 133 [.pv x.2.enc])) : ∀ (l : List (Pa × Ex)) (k : Nat) (i : Int), arms.drop k = l → isI (L133_111014 i (arms.map eArm) k)
  | [], k, i, h => by rw [e133_111014, endK_map h]; exact .mk _
  | x :: l, k, i, h => by
    have A := atK_map (f := eArm) h hl
    have A' := atK h hl
    have ih := fun i => l133b hl hp hs l (k + 1) i A'.drop
    rw [e133_111014]
    simp only [A.lt, A.ge, A.get, A.next, cond_true, Option.bind_some]
    simp only [arm_fits, arm_ex, arm_pa, cond_true]
    refine .ofI (hs x (mem_drop h)) fun n => ?_
    simp only [fits_i64, toInt_int, cond_true]
    refine .ofI (t142 (hp x (mem_drop h))) fun n => ?_
    simp only [fits_i64, toInt_int, cond_true]
    exact ih _
theorem l133a {e : Ex} (he : Okx e) (hb : ∀ i, isI (L133_111014 i (e.arms.map eArm) 0)) (hs : ∀ q, q ∈ e.args → isI (V 133 [.pv q.enc])) (k0 n0 : Int) (tx : Str) (ns tys : List PV) (at_ : Int) : ∀ (l : List Ex) (k : Nat) (i : Int), e.args.drop k = l → isI (L133_11014 i (e.args.map Ex.enc) k k0 n0 tx ns tys (e.arms.map eArm) at_)
  | [], k, i, h => by rw [e133_11014, endK_map h]; exact hb _
  | x :: l, k, i, h => by
    have A := atK_map (f := Ex.enc) h he.ars
    have A' := atK h he.ars
    have ih := fun i => l133a he hb hs k0 n0 tx ns tys at_ l (k + 1) i A'.drop
    rw [e133_11014]
    simp only [A.lt, A.ge, A.get, A.next, cond_true, Option.bind_some]
    simp only [ex_fits, ex_eta, cond_true]
    refine .ofI (hs x (mem_drop h)) fun n => ?_
    simp only [fits_i64, toInt_int, cond_true]
    exact ih _
theorem t133 {e : Ex} : Okx e → isI (V 133 [.pv e.enc]) := by
  refine Ex.ind (Q := fun e => Okx e → isI (V 133 [.pv e.enc])) (fun e iha ihm he => ?_) e
  rw [ex_enc, e133]
  exact l133a he (fun i => l133b he.rms he.pas (fun x hx => ihm x hx (he.exs x hx)) e.arms 0 i rfl) (fun q hq => iha q hq (he.sub q hq)) _ _ _ _ _ _ e.args 0 _ rfl
theorem l38b {arms : List (Pa × Ex)} (hl : arms.length ≤ maxLen) (hp : ∀ x, x ∈ arms → Okp x.1) (hs : ∀ x, x ∈ arms → isI (V 38 [.pv x.2.enc])) : ∀ (l : List (Pa × Ex)) (k : Nat) (i : Int), arms.drop k = l → isI (L38_111014 i (arms.map eArm) k)
  | [], k, i, h => by rw [e38_111014, endK_map h]; exact .mk _
  | x :: l, k, i, h => by
    have A := atK_map (f := eArm) h hl
    have A' := atK h hl
    have ih := fun i => l38b hl hp hs l (k + 1) i A'.drop
    rw [e38_111014]
    simp only [A.lt, A.ge, A.get, A.next, cond_true, Option.bind_some]
    simp only [arm_fits, arm_ex, arm_pa, cond_true]
    refine .ofI (hs x (mem_drop h)) fun n => ?_
    simp only [fits_i64, toInt_int, cond_true]
    refine .ofI (t75 (hp x (mem_drop h))) fun n => ?_
    simp only [fits_i64, toInt_int, cond_true]
    exact ih _
theorem l38a {e : Ex} (he : Okx e) (hb : ∀ i, isI (L38_111014 i (e.arms.map eArm) 0)) (hs : ∀ q, q ∈ e.args → isI (V 38 [.pv q.enc])) (k0 n0 : Int) (tx : Str) (ns tys : List PV) (at_ : Int) : ∀ (l : List Ex) (k : Nat) (i : Int), e.args.drop k = l → isI (L38_11014 i (e.args.map Ex.enc) k k0 n0 tx ns tys (e.arms.map eArm) at_)
  | [], k, i, h => by rw [e38_11014, endK_map h]; exact hb _
  | x :: l, k, i, h => by
    have A := atK_map (f := Ex.enc) h he.ars
    have A' := atK h he.ars
    have ih := fun i => l38a he hb hs k0 n0 tx ns tys at_ l (k + 1) i A'.drop
    rw [e38_11014]
    simp only [A.lt, A.ge, A.get, A.next, cond_true, Option.bind_some]
    simp only [ex_fits, ex_eta, cond_true]
    refine .ofI (hs x (mem_drop h)) fun n => ?_
    simp only [fits_i64, toInt_int, cond_true]
    exact ih _
theorem t38 {e : Ex} : Okx e → isI (V 38 [.pv e.enc]) := by
  refine Ex.ind (Q := fun e => Okx e → isI (V 38 [.pv e.enc])) (fun e iha ihm he => ?_) e
  rw [ex_enc, e38]
  exact l38a he (fun i => l38b he.rms he.pas (fun x hx => ihm x hx (he.exs x hx)) e.arms 0 i rfl) (fun q hq => iha q hq (he.sub q hq)) _ _ _ _ _ _ e.args 0 _ rfl
end Go.AL.S6
