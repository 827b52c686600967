/- The checks of a program come to an end: expressions. -/
import Derived.Test.YtlmodlihiglnhaaS6Tot2
set_option linter.unusedVariables false
set_option linter.unusedSimpArgs false
set_option maxRecDepth 100000
namespace Go.AL.S6
open Go Go.AL

def isF (o : Option Out) : Prop := ∃ (a b c : Int) (d e f : Bool), o = some (.pv (.tup [.agg [.int .i64 a, .int .i64 b, .int .i64 c, .bool d, .bool e], .bool f]), [])
theorem isF.mk (a b c : Int) (d e f : Bool) : isF (some (.pv (.tup [.agg [.int .i64 a, .int .i64 b, .int .i64 c, .bool d, .bool e], .bool f]), [])) := ⟨a, b, c, d, e, f, rfl⟩
theorem isF.bif {c : Bool} {a b : Option Out} (h : isF a) (k : isF b) : isF (bif c then a else b) := by cases c <;> assumption
theorem isI.ofF {o : Option Out} {f : PV → Option Out} (h : isF o) (k : ∀ a b c d e g, isI (f (.tup [.agg [.int .i64 a, .int .i64 b, .int .i64 c, .bool d, .bool e], .bool g]))) : isI ((o.bind retPV).bind f) := by
  obtain ⟨a, b, c, d, e, g, rfl⟩ := h; exact k a b c d e g
theorem f143a (k : Int) (b : Bool) : isF (L143_10141313131313131313131313131316 k b) := by
  rw [e143_10141313131313131313131313131316]
  repeat' (first | exact .mk _ _ _ _ _ _ | refine .bif ?_ ?_)
theorem f143b (k : Int) (b : Bool) : isF (L143_10141313131313131313131316 k b) := by
  rw [e143_10141313131313131313131316]
  repeat' (first | exact .mk _ _ _ _ _ _ | exact f143a _ _ | refine .bif ?_ ?_)
theorem f143c (k : Int) (b : Bool) : isF (L143_10141316 k b) := by
  rw [e143_10141316]
  repeat' (first | exact .mk _ _ _ _ _ _ | exact f143b _ _ | refine .bif ?_ ?_)
theorem f143d (k : Int) (b : Bool) : isF (L143_101416 k b) := by
  rw [e143_101416]
  repeat' (first | exact .mk _ _ _ _ _ _ | exact f143c _ _ | refine .bif ?_ ?_)
theorem t143 (k : Int) : isF (V 143 [.pv (.int .i64 k)]) := by
  rw [e143]
  exact .bif (f143d _ _) (f143d _ _)
theorem fitsF (a b c : Int) (d e g : Bool) : (Sh.tup [Sh.agg [Sh.int .i64, Sh.int .i64, Sh.int .i64, Sh.bool, Sh.bool], Sh.bool]).fits (.tup [.agg [.int .i64 a, .int .i64 b, .int .i64 c, .bool d, .bool e], .bool g]) = true := nrfl rfl
theorem t144 (k n : Int) (tx : Str) (ns tys args arms : List PV) (w how : Int) : isB (V 144 [.pv (.agg [.int .i64 k, .int .i64 n, .str tx, .lst ns, .lst tys, .lst args, .lst arms, .int .i64 w]), .pv (.int .i64 how)]) := by
  have h0 : ∀ b, isB (L144_110141316 b k n tx ns tys args arms w) := fun b => by
    rw [e144_110141316]
    exact .bif (.mk _) (.mk _)
  rw [e144]
  repeat' (first | exact .mk _ | exact h0 _ | refine .bif ?_ ?_ | (refine .ofB (t65 _) fun b => ?_; simp only [fits_bool, toBool_bool, cond_true]) | (refine .ofB (t105 _) fun b => ?_; simp only [fits_bool, toBool_bool, cond_true]))
theorem t145 (k n : Int) (tx : Str) (ns tys args arms : List PV) (w a b c : Int) (d e : Bool) : isB (V 145 [.pv (.agg [.int .i64 k, .int .i64 n, .str tx, .lst ns, .lst tys, .lst args, .lst arms, .int .i64 w]), .pv (.agg [.int .i64 a, .int .i64 b, .int .i64 c, .bool d, .bool e])]) := by
  rw [e145]
  repeat' (first | exact .mk _ | refine .bif ?_ ?_)

def okE (e : Ex) : Prop := ∀ may, isI (V 134 [.pv e.enc, .pv (.bool may)])
theorem l134b {arms : List (Pa × Ex)} (hl : arms.length ≤ maxLen) (hp : ∀ x, x ∈ arms → Okp x.1) (hs : ∀ x, x ∈ arms → okE x.2) (may : Bool) : ∀ (l : List (Pa × Ex)) (k : Nat), arms.drop k = l → isI (L134_1111111014 may (arms.map eArm) k)
  | [], k, h => by rw [e134_1111111014, endK_map h]; exact .mk _
  | x :: l, k, h => by
    have A := atK_map (f := eArm) h hl
    have A' := atK h hl
    have ih := l134b hl hp hs may l (k + 1) A'.drop
    rw [e134_1111111014]
    simp only [A.lt, A.ge, A.get, A.next, cond_true, Option.bind_some]
    simp only [arm_fits, arm_ex, arm_pa, cond_true]
    refine .ofI (t146 (hp x (mem_drop h))) fun n => ?_
    simp only [fits_i64, toInt_int, cond_true]
    refine .bif (.mk _) (.ofI (hs x (mem_drop h) _) fun n => ?_)
    simp only [fits_i64, toInt_int, cond_true]
    exact .bif (.mk _) ih
theorem l134a {e : Ex} (he : Okx e) (may : Bool) (hb : isI (L134_1111111014 may (e.arms.map eArm) 0)) (hs : ∀ q, q ∈ e.args → okE q) (k0 n0 : Int) (tx : Str) (ns tys : List PV) (at_ : Int) : ∀ (l : List Ex) (k : Nat), e.args.drop k = l → isI (L134_111111014 may (e.args.map Ex.enc) k k0 n0 tx ns tys (e.arms.map eArm) at_)
  | [], k, h => by rw [e134_111111014, endK_map h]; exact hb
  | x :: l, k, h => by
    have A := atK_map (f := Ex.enc) h he.ars
    have A' := atK h he.ars
    have ih := l134a he may hb hs k0 n0 tx ns tys at_ l (k + 1) A'.drop
    rw [e134_111111014]
    simp only [A.lt, A.ge, A.get, A.next, cond_true, Option.bind_some]
    simp only [ex_fits, ex_eta, cond_true]
    refine .bif (.ofI (hs x (mem_drop h) _) fun n => ?_) (.ofI (hs x (mem_drop h) _) fun n => ?_)
    · simp only [fits_i64, toInt_int, cond_true]
      exact .bif (.mk _) ih
    · simp only [fits_i64, toInt_int, cond_true]
      exact .bif (.mk _) ih
theorem t134 {e : Ex} : Okx e → okE e := by
  refine Ex.ind (Q := fun e => Okx e → okE e) (fun e iha ihm he => ?_) e
  intro may
  have hb : isI (L134_1111111014 may (e.arms.map eArm) 0) := l134b he.rms he.pas (fun x hx => ihm x hx (he.exs x hx)) may e.arms 0 rfl
  have ha : isI (L134_111111014 may (e.args.map Ex.enc) 0 e.kind e.num e.text (e.names.map .str) e.types (e.arms.map eArm) e.at_) := l134a he may hb (fun q hq => iha q hq (he.sub q hq)) _ _ _ _ _ _ e.args 0 rfl
  have h1 : isI (L134_1111116 may e.kind e.num e.text (e.names.map .str) e.types (e.args.map Ex.enc) (e.arms.map eArm) e.at_) := by
    rw [e134_1111116]; exact ha
  have h2 : isI (L134_111116 may e.kind e.num e.text (e.names.map .str) e.types (e.args.map Ex.enc) (e.arms.map eArm) e.at_) := by
    rw [e134_111116]
    repeat' (first | exact .mk _ | exact h1 | refine .bif ?_ ?_ | (refine .ofI (t106 he.nms) fun b => ?_; simp only [fits_i64, toInt_int, cond_true]) | (refine .ofI (t107' he.tys _) fun b => ?_; simp only [fits_i64, toInt_int, cond_true]))
  have h3 : ∀ a b c d g, isI (L134_11116 may e.kind e.num e.text (e.names.map .str) e.types (e.args.map Ex.enc) (e.arms.map eArm) e.at_ a b c d g) := fun a b c d g => by
    rw [e134_11116]
    repeat' (first | exact .mk _ | exact h2 | refine .bif ?_ ?_ | (refine .ofB (t144 _ _ _ _ _ _ _ _ _) fun b => ?_; simp only [fits_bool, toBool_bool, cond_true]) | (refine .ofB (t145 _ _ _ _ _ _ _ _ _ _ _ _ _) fun b => ?_; simp only [fits_bool, toBool_bool, cond_true]))
  rw [ex_enc, e134]
  refine .ofF (t143 _) fun a b c d g f => ?_
  simp only [fitsF, cond_true]
  repeat' (first | exact .mk _ | exact h3 _ _ _ _ _ | refine .bif ?_ ?_)
theorem t109 {e : Ex} (he : Okx e) (may : Bool) : isI (V 109 [.pv e.enc, .pv (.bool may)]) := by
  have h0 := e109 e.kind e.num e.text (e.names.map .str) e.types (e.args.map Ex.enc) (e.arms.map eArm) e.at_ may
  rw [← ex_enc] at h0
  rw [h0]
  refine .ofI (t38 he) fun n => ?_
  simp only [fits_i64, toInt_int, cond_true]
  refine .bif (.mk _) (.ofI (t133 he) fun n => ?_)
  simp only [fits_i64, toInt_int, cond_true]
  refine .bif (.mk _) (.ofI (t134 he may) fun n => ?_)
  simp only [fits_i64, toInt_int, cond_true]
  exact .mk _
end Go.AL.S6
