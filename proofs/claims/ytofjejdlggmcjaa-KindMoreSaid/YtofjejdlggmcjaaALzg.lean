/- A loop within a function, as a function of the rounds that are left and of the state at its head. -/
import Derived.Test.YtofjejdlggmcjaaALzf
set_option linter.unusedVariables false
namespace Go.AL

/-- The way to a piece of code. 'o m': into a loop's body, m rounds being left behind this one. -/
inductive Dir where
  | l | r | t | e | b
  | o (m : Nat)

section
variable (P : Program) (E : Env) (f : FuncId) (n : Nat) {ρ : Type}

def rounds (b : Code) (bid : Nat) (h : Head) (k : Ks ρ) (m : Nat) (x : AS) : Option ρ :=
  Nat.rec (motive := fun _ => AS → Option ρ) (fun _ => none) (fun _ again x => exec P E f n b bid { k with normal := fun x => (x.head h).bind again } x) m x

def loopIn : Code → Nat → List Dir → Ks ρ → Nat → AS → Option ρ
  | .seq a b, bid, .l :: p, k, m, x => loopIn a bid p { k with normal := fun x => exec P E f n b bid k x } m x
  | .seq a b, bid, .r :: p, k, m, x => loopIn b bid p k m x
  | .cond _ a b, bid, .t :: p, k, m, x => loopIn a bid p k m x
  | .cond _ a b, bid, .e :: p, k, m, x => loopIn b bid p k m x
  | .block i b, _, .b :: p, k, m, x => loopIn b i p { k with exits := (i, k.normal) :: k.exits } m x
  | .loop b, bid, .o q :: p, k, m, x => match E.heads f bid with
    | some h => loopIn b bid p { k with normal := fun x => (x.head h).bind (rounds P E f n b bid h k q) } m x
    | none => none
  | .loop b, bid, [], k, m, x => match E.heads f bid with
    | some h => rounds P E f n b bid h k m x
    | none => none
  | _, _, _, _, _, _ => none
end

/-- The loop at this place of a function that is called with n + 1. -/
def loopAt (P : Program) (T : Tab) (n : Nat) (f : FuncId) (p : List Dir) (m : Nat) (x : AS) : Option Out :=
  match P.funcs[f]? with
  | some fn => match fn.body with
    | some c => loopIn P (envOf T (acall P T n)) f n c 0 p ⟨results P (envOf T (acall P T n)) f fn, [], results P (envOf T (acall P T n)) f fn⟩ m x
    | none => none
  | none => none
end Go.AL
