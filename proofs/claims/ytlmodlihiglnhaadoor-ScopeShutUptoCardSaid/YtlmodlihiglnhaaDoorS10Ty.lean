/- Types as trees; names; the same; kinds; putting in. -/
import Derived.Test.YtlmodlihiglnhaaDoorS10EB
import Derived.Test.YtlmodlihiglnhaaDoorS10EC
import Derived.Test.YtlmodlihiglnhaaDoorAL4
set_option linter.unusedVariables false
set_option linter.unusedSimpArgs false
namespace Go.AL.S10
open Go Go.AL

abbrev Str := List UInt8
inductive Ty where
  | mk (k : Int) (nm : Str) (args : List Ty)
def Ty.kind : Ty → Int | .mk k _ _ => k
def Ty.name : Ty → Str | .mk _ n _ => n
def Ty.args : Ty → List Ty | .mk _ _ a => a
def Ty.enc : Ty → PV
  | .mk k nm args => .agg [.int .i64 k, .str nm, .lst (encs args)]
where encs : List Ty → List PV
  | [] => []
  | t :: l => t.enc :: encs l
theorem encs_map (l : List Ty) : Ty.enc.encs l = l.map Ty.enc := by
  induction l with
  | nil => rfl
  | cons t l ih => simp [Ty.enc.encs, ih]
theorem enc_mk (k : Int) (nm : Str) (args : List Ty) : (Ty.mk k nm args).enc = .agg [.int .i64 k, .str nm, .lst (args.map Ty.enc)] := by rw [Ty.enc, encs_map]
theorem ty_fits (t : Ty) : (Sh.agg [Sh.int .i64, Sh.str, Sh.lst]).fits t.enc = true := by cases t; rfl
theorem ty_k (t : Ty) : (t.enc.c 0).toInt = t.kind := by cases t; rfl
theorem ty_n (t : Ty) : (t.enc.c 1).toStr = t.name := by cases t; rfl
theorem ty_a (t : Ty) : (t.enc.c 2).toLst = t.args.map Ty.enc := by cases t; rw [enc_mk]; rfl
theorem ty_eta (t : Ty) : PV.agg [.int .i64 t.kind, .str t.name, .lst (t.args.map Ty.enc)] = t.enc := by cases t; rw [enc_mk]; rfl

theorem Ty.ind {Q : Ty → Prop} (h : ∀ k nm args, (∀ t, t ∈ args → Q t) → Q (.mk k nm args)) (t : Ty) : Q t := by
  have : ∀ (N : Nat) (t : Ty), SizeOf.sizeOf t < N → Q t := by
    intro N
    induction N with
    | zero => intro t ht; omega
    | succ N ih =>
      rintro ⟨k, nm, args⟩ ht
      refine h k nm args fun t hm => ih t ?_
      have h1 := List.sizeOf_lt_of_mem hm
      simp only [Ty.mk.sizeOf_spec] at ht
      omega
  exact this _ t (Nat.lt_succ_self _)

/-- An int64. -/
def R64 (n : Int) : Prop := -9223372036854775808 ≤ n ∧ n ≤ 9223372036854775807
/-- All lists of parts are such as fit into memory. -/
inductive Okt : Ty → Prop where
  | mk {k : Int} {nm : Str} {args : List Ty} : R64 k → args.length ≤ maxLen → args.length * 48 ≤ reachBytes → (∀ t, t ∈ args → Okt t) → Okt (.mk k nm args)
theorem Okt.rk {k : Int} {nm : Str} {args : List Ty} (h : Okt (.mk k nm args)) : R64 k := by cases h; assumption
theorem Okt.len {k : Int} {nm : Str} {args : List Ty} (h : Okt (.mk k nm args)) : args.length ≤ maxLen := by cases h; assumption
theorem Okt.bytes {k : Int} {nm : Str} {args : List Ty} (h : Okt (.mk k nm args)) : args.length * 48 ≤ reachBytes := by cases h; assumption
theorem Okt.sub {k : Int} {nm : Str} {args : List Ty} (h : Okt (.mk k nm args)) : ∀ t, t ∈ args → Okt t := by cases h; assumption

end Go.AL.S10
