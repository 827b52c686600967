/- The judge: types, patterns come to an end; depths. -/
import Derived.Test.YtlmodlihiglnhaaDoorS10Tot
set_option linter.unusedVariables false
set_option linter.unusedSimpArgs false
set_option maxRecDepth 20000
namespace Go.AL.S10
open Go Go.AL

theorem JR.of {Q R : Prop} {o : Option Out} (h : JR R o) (k : R → Q) : JR Q o := by
  obtain ⟨j, e, hj⟩ := h
  exact ⟨j, e, fun e => k (hj e)⟩
theorem t56 (s : Str) : isB (V 56 [.pv (.str s)]) := by
  rw [e56]
  refine .ofB (t58 _) fun b => ?_
  simp only [fits_bool, toBool_bool, cond_true]
  cases b with
  | false => exact .mk _
  | true =>
    simp only [cond_true]
    exact .bif (.mk _) (.mk _)

/-! #### Types -/
def okT (t : Ty) : Prop := ∀ j deep : Int, JR (j = 0) (V 92 [.box [.int .i64 j], .pv t.enc, .pv (.int .i64 deep)])
theorem l92 {args : List Ty} (hl : args.length ≤ maxLen) (hs : ∀ t, t ∈ args → okT t) (deep : Int) : ∀ (l : List Ty) (k : Nat) (j : Int), args.drop k = l → JR (j = 0) (L92_111111114 deep (args.map Ty.enc) k j)
  | [], k, j, h => by rw [e92_111111114, endK_map h]; exact .ret id
  | x :: l, k, j, h => by
    have A := atK_map (f := Ty.enc) h hl
    have A' := atK h hl
    rw [e92_111111114]
    simp only [A.lt, A.ge, A.get, A.next, cond_true, Option.bind_some, ty_fits, ty_k, ty_n, ty_a, ty_eta]
    refine .call (hs x (mem_drop h) _ _) fun j1 h1 => ?_
    simp only [jb]
    exact (l92 hl hs deep l (k + 1) j1 A'.drop).of h1
theorem v92 {t : Ty} : Okt t → okT t := by
  induction t using Ty.ind with
  | h k nm args ih =>
    intro ho j deep
    have hl := ho.len
    have hs : ∀ t, t ∈ args → okT t := fun t ht => ih t ht (ho.sub t ht)
    have fin : ∀ v : Int, JR (v = 0) (L92_11111116 deep v k nm (args.map Ty.enc)) := fun v => by
      rw [e92_11111116]; exact l92 hl hs deep args 0 v rfl
    have fin2 : ∀ (b : Bool) (v : Int), JR (v = 0) (L92_11111101413131316 deep (args.map Ty.enc) b v k nm) := fun b v => by
      rw [e92_11111101413131316]
      repeat' first
        | refine .bif (fun _ => ?_) (fun _ => ?_)
        | refine .call (v53 _ _) fun j2 h2 => ?_
      all_goals (simp only [jb]; exact (fin _).of fun e => (h2 e).1)
    have st2 : ∀ v : Int, JR (v = 0) (L92_1116 deep v k nm (args.map Ty.enc)) := fun v => by
      rw [e92_1116]
      refine .bif (fun _ => .ret id) fun _ => ?_
      refine .call (v52 _ _) fun j1 h1 => ?_
      simp only [jb]
      repeat' first
        | simp only [fits_bool, toBool_bool, cond_true]
        | refine .bif (fun _ => ?_) (fun _ => ?_)
        | exact (fin2 _ _).of fun e => (h1 e).1
        | refine .ofB (t54 _) fun b _ => ?_
        | refine .ofB (t56 _) fun b _ => ?_
        | simp only [fits_bool, toBool_bool, cond_true]
        | (refine .call (v53 _ _) fun j2 h2 => ?_; simp only [jb]; exact (fin _).of fun e => (h1 (h2 e).1).1)
    rw [enc_mk, e92]
    refine .call (v52 _ _) fun j1 h1 => ?_
    simp only [jb]
    repeat' first
      | refine .bif (fun _ => ?_) (fun _ => ?_)
      | (refine .call (v53 _ _) fun j2 h2 => ?_; simp only [jb]; exact (st2 _).of fun e => (h1 (h2 e).1).1)
theorem l59 {args : List Ty} (hl : args.length ≤ maxLen) (hs : ∀ t, t ∈ args → Okt t) : ∀ (l : List Ty) (k : Nat) (j : Int), args.drop k = l → JR (j = 0) (L59_14 (args.map Ty.enc) k j)
  | [], k, j, h => by rw [e59_14, endK_map h]; exact .ret id
  | x :: l, k, j, h => by
    have A := atK_map (f := Ty.enc) h hl
    have A' := atK h hl
    rw [e59_14]
    simp only [A.lt, A.ge, A.get, A.next, cond_true, Option.bind_some, ty_fits, ty_k, ty_n, ty_a, ty_eta]
    refine .call (v92 (hs x (mem_drop h)) _ _) fun j1 h1 => ?_
    simp only [jb]
    exact (l59 hl hs l (k + 1) j1 A'.drop).of h1
theorem v59 {args : List Ty} (hl : args.length ≤ maxLen) (hs : ∀ t, t ∈ args → Okt t) (j : Int) : JR (j = 0) (V 59 [.box [.int .i64 j], .pv (.lst (args.map Ty.enc))]) := by
  rw [e59]; exact l59 hl hs args 0 j rfl

/-! #### Patterns, what is handed in -/
inductive Okp : Pa → Prop where
  | mk {p : Pa} : R64 p.kind → R64 p.num → p.args.length ≤ maxLen → (∀ q, q ∈ p.args → Okp q) → Okp p
theorem Okp.rk {p : Pa} (h : Okp p) : R64 p.kind := by cases h; assumption
theorem Okp.rn {p : Pa} (h : Okp p) : R64 p.num := by cases h; assumption
theorem Okp.len {p : Pa} (h : Okp p) : p.args.length ≤ maxLen := by cases h; assumption
theorem Okp.sub {p : Pa} (h : Okp p) : ∀ q, q ∈ p.args → Okp q := by cases h; assumption
def OkTs (l : List PV) : Prop := ∃ ts : List Ty, l = ts.map Ty.enc ∧ ts.length * 48 ≤ reachBytes ∧ ts.length ≤ maxLen ∧ ∀ t, t ∈ ts → Okt t
inductive Okx : Ex → Prop where
  | mk {e : Ex} : R64 e.kind → R64 e.num → e.names.length ≤ maxLen → OkTs e.types → e.args.length ≤ maxLen → e.arms.length ≤ maxLen → (∀ a, a ∈ e.args → Okx a) → (∀ x, x ∈ e.arms → Okp x.1) → (∀ x, x ∈ e.arms → Okx x.2) → Okx e
theorem Okx.rk {e : Ex} (h : Okx e) : R64 e.kind := by cases h; assumption
theorem Okx.rn {e : Ex} (h : Okx e) : R64 e.num := by cases h; assumption
theorem Okx.nms {e : Ex} (h : Okx e) : e.names.length ≤ maxLen := by cases h; assumption
theorem Okx.tys {e : Ex} (h : Okx e) : OkTs e.types := by cases h; assumption
theorem Okx.ars {e : Ex} (h : Okx e) : e.args.length ≤ maxLen := by cases h; assumption
theorem Okx.rms {e : Ex} (h : Okx e) : e.arms.length ≤ maxLen := by cases h; assumption
theorem Okx.sub {e : Ex} (h : Okx e) : ∀ a, a ∈ e.args → Okx a := by cases h; assumption
theorem Okx.pas {e : Ex} (h : Okx e) : ∀ x, x ∈ e.arms → Okp x.1 := by cases h; assumption
theorem Okx.exs {e : Ex} (h : Okx e) : ∀ x, x ∈ e.arms → Okx x.2 := by cases h; assumption
def okPt (p : Pa) : Prop := ∀ j : Int, JR (j = 0) (V 122 [.box [.int .i64 j], .pv p.enc])
theorem pa_0 (p : Pa) : (p.enc.c 0).toInt = p.kind := by rw [pa_enc]; rfl
theorem l122 {args : List Pa} (hl : args.length ≤ maxLen) (hs : ∀ q, q ∈ args → okPt q) : ∀ (l : List Pa) (k : Nat) (j : Int), args.drop k = l → JR (j = 0) (L122_1111111114 (args.map Pa.enc) k j)
  | [], k, j, h => by rw [e122_1111111114, endK_map h]; exact .ret id
  | x :: l, k, j, h => by
    have A := atK_map (f := Pa.enc) h hl
    have A' := atK h hl
    rw [e122_1111111114]
    simp only [A.lt, A.ge, A.get, A.next, cond_true, Option.bind_some, pa_fits, pa_eta]
    refine .call (hs x (mem_drop h) _) fun j1 h1 => ?_
    simp only [jb]
    exact (l122 hl hs l (k + 1) j1 A'.drop).of h1
theorem v122 {p : Pa} : Okp p → okPt p := by
  induction p using Pa.ind with
  | h p ih =>
    intro ho j
    have hs : ∀ q, q ∈ p.args → okPt q := fun q hq => ih q hq (ho.sub q hq)
    have f1 : ∀ v : Int, JR (v = 0) (L122_1111116 v p.kind p.num p.text (p.args.map Pa.enc)) := fun v => by
      rw [e122_1111116]
      refine .call (v52 _ _) fun j1 h1 => ?_
      simp only [jb]
      refine .bif (fun _ => .ret fun e => (h1 e).1) fun _ => ?_
      exact (l122 ho.len hs p.args 0 j1 rfl).of fun e => (h1 e).1
    have f2 : ∀ (b : Bool) (v : Int), JR (v = 0) (L122_111116 b v p.kind p.num p.text (p.args.map Pa.enc)) := fun b v => by
      rw [e122_111116]
      repeat' first
        | refine .bif (fun _ => ?_) (fun _ => ?_)
        | (refine .call (v53 _ _) fun j2 h2 => ?_; simp only [jb]; exact (f1 _).of fun e => (h2 e).1)
    have f3 : ∀ v : Int, JR (v = 0) (L122_116 v p.kind p.num p.text (p.args.map Pa.enc)) := fun v => by
      rw [e122_116]
      repeat' first
        | exact f2 _ _
        | simp only [fits_bool, toBool_bool, cond_true]
        | refine .bif (fun _ => ?_) (fun _ => ?_)
        | refine .ofB (t54 _) fun b _ => ?_
        | refine .ofB (t58 _) fun b _ => ?_
        | simp only [fits_bool, toBool_bool, cond_true]
    rw [pa_enc, e122]
    repeat' first
      | refine .bif (fun _ => ?_) (fun _ => ?_)
      | (refine .call (v52 _ _) fun j2 h2 => ?_; simp only [jb]; exact (f3 _).of fun e => (h2 e).1)

/-! #### Depths -/
theorem l118 {args : List Pa} (hl : args.length ≤ maxLen) (hs : ∀ q, q ∈ args → isI (V 118 [.pv q.enc])) : ∀ (l : List Pa) (k : Nat) (i : Int), args.drop k = l → isI (L118_11014 i (args.map Pa.enc) k)
  | [], k, i, h => by rw [e118_11014, endK_map h]; exact .mk _
  | x :: l, k, i, h => by
    have A := atK_map (f := Pa.enc) h hl
    have A' := atK h hl
    rw [e118_11014]
    simp only [A.lt, A.ge, A.get, A.next, cond_true, Option.bind_some, pa_fits, pa_eta]
    refine .ofI (hs x (mem_drop h)) fun n => ?_
    simp only [fits_i64, toInt_int, cond_true]
    exact l118 hl hs l (k + 1) _ A'.drop
theorem t118 {p : Pa} : Okp p → isI (V 118 [.pv p.enc]) := by
  induction p using Pa.ind with
  | h p ih =>
    intro ho
    rw [pa_enc, e118]
    exact l118 ho.len (fun q hq => ih q hq (ho.sub q hq)) p.args 0 1 rfl
end Go.AL.S10
