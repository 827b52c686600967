/- The values of the abstract machine (trees without memory), what it means that a concrete value is one of them in memory that does not change, and lemmas on both. -/
import Derived.WalkKit
import Derived.KernelRfl
import Derived.Orders
set_option linter.unusedVariables false
namespace Go.AL
open Go.RowKit

inductive PV where
  | int (k : IntKind) (n : Int)
  | bool (b : Bool)
  | str (s : List UInt8)
  | nils
  | lst (xs : List PV)
  | nn (xs : List PV)
  | agg (cs : List PV)
  | tup (cs : List PV)
  | ptr (cs : List PV)
  | fn (f : FuncId) (cap : List PV)
  | nilI
  | iface (t : TypeId) (v : PV)
  | nilf
  | nilp
  deriving Inhabited

namespace PV
def cells : PV → List PV
  | agg cs => cs
  | x => [x]
def comps : PV → List PV
  | tup cs => cs
  | _ => []
/-- cell i of a struct -/
def c (x : PV) (i : Nat) : PV := match x with | agg cs => cs.getD i nilp | _ => nilp
/-- result i of several -/
def r (x : PV) (i : Nat) : PV := match x with | tup cs => cs.getD i nilp | _ => nilp
def toInt : PV → Int | int _ n => n | _ => 0
def toBool : PV → Bool | bool b => b | _ => false
def toStr : PV → List UInt8 | str s => s | _ => []
def toLst : PV → List PV | lst xs => xs | _ => []
/-- does it lie in one cell? -/
def one : PV → Bool | agg _ => false | tup _ => false | _ => true
end PV

/-- Memory that does not change. -/
abbrev Mem := Addr → Option Value

def mkStr (s : List UInt8) : ByteArray := ⟨s.toArray⟩

inductive PRep (M : Mem) : PV → Value → Prop where
  | int (k n) : PRep M (.int k n) (.int k n)
  | bool (b) : PRep M (.bool b) (.bool b)
  | str (s) : PRep M (.str s) (.string (mkStr s))
  | nils : PRep M .nils (.slice none 0 0)
  | lst (xs : List PV) (A : Option Addr) (cap sz : Nat) (vs : Nat → Nat → Value) (hsz : 0 < sz) (hcap : xs.length ≤ cap) (hs : ∀ x, x ∈ xs → x.cells.length = sz)
      (ho : ∀ x, x ∈ xs → ∀ y, y ∈ x.cells → y.one = true) (hA : 0 < cap → A ≠ none)
      (hm : ∀ ad, A = some ad → ∀ j x k y, xs[j]? = some x → x.cells[k]? = some y → M (ad.add (j * sz + k)) = some (vs j k))
      (hr : ∀ j x k y, xs[j]? = some x → x.cells[k]? = some y → PRep M y (vs j k)) : PRep M (.lst xs) (.slice A xs.length cap)
  | nn (xs : List PV) (ad : Addr) (n cap : Nat) (h : PRep M (.lst xs) (.slice (some ad) n cap)) : PRep M (.nn xs) (.slice (some ad) n cap)
  | agg (cs : List PV) (vs : List Value) (hl : vs.length = cs.length) (ho : ∀ y, y ∈ cs → y.one = true)
      (hr : ∀ (i : Nat) c v, cs[i]? = some c → vs[i]? = some v → PRep M c v) : PRep M (.agg cs) (.agg vs.toArray)
  | tup (cs : List PV) (vs : List Value) (hl : vs.length = cs.length) (hr : ∀ (i : Nat) c v, cs[i]? = some c → vs[i]? = some v → PRep M c v) : PRep M (.tup cs) (.tuple vs.toArray)
  | ptr (cs : List PV) (ad : Addr) (vs : Nat → Value) (ho : ∀ y, y ∈ cs → y.one = true) (hm : ∀ (k : Nat) c, cs[k]? = some c → M (ad.add k) = some (vs k))
      (hr : ∀ (k : Nat) c, cs[k]? = some c → PRep M c (vs k)) : PRep M (.ptr cs) (.pointer (some ad))
  | fn (f : FuncId) (cap : List PV) (vs : List Value) (hl : vs.length = cap.length) (hr : ∀ (i : Nat) c v, cap[i]? = some c → vs[i]? = some v → PRep M c v) : PRep M (.fn f cap) (.func (.func f) #[] vs.toArray)
  | nilI : PRep M .nilI .nilIface
  | iface (t : TypeId) (p : PV) (v : Value) (h : PRep M p v) : PRep M (.iface t p) (.iface t v)
  | nilf : PRep M .nilf .nilFunc
  | nilp : PRep M .nilp (.pointer none)

def Mem.le (M M' : Mem) : Prop := ∀ a v, M a = some v → M' a = some v
theorem Mem.le_refl (M : Mem) : M.le M := fun _ _ h => h
theorem Mem.le_trans {A B C : Mem} (h : A.le B) (k : B.le C) : A.le C := fun a v e => k a v (h a v e)

theorem PRep.mono {M M' : Mem} (hle : M.le M') {p : PV} {v : Value} (h : PRep M p v) : PRep M' p v := by
  induction h with
  | int k n => exact .int k n
  | bool b => exact .bool b
  | str s => exact .str s
  | nils => exact .nils
  | lst xs A cap sz vs hsz hcap hs ho hA hm hr ih => exact .lst xs A cap sz vs hsz hcap hs ho hA (fun ad e j x k y h1 h2 => hle _ _ (hm ad e j x k y h1 h2)) ih
  | nn xs ad n cap h ih => exact .nn xs ad n cap ih
  | agg cs vs hl ho hr ih => exact .agg cs vs hl ho ih
  | tup cs vs hl hr ih => exact .tup cs vs hl ih
  | ptr cs ad vs ho hm hr ih => exact .ptr cs ad vs ho (fun k c h => hle _ _ (hm k c h)) ih
  | fn f cap vs hl hr ih => exact .fn f cap vs hl ih
  | nilI => exact .nilI
  | iface t p v h ih => exact .iface t p v ih
  | nilf => exact .nilf
  | nilp => exact .nilp

theorem PRep.one {M : Mem} {p : PV} {v : Value} (h : PRep M p v) (ho : p.one = true) : v.oneCell' = true := by
  cases h <;> first | rfl | (simp [PV.one] at ho)

/-- What a value's cells are. -/
theorem PRep.cells {M : Mem} {p : PV} {v : Value} (h : PRep M p v) (hp : ∀ cs, p ≠ .tup cs) : v.cells.toList.length = p.cells.length ∧ (∀ y, y ∈ p.cells → y.one = true) ∧
    ∀ (k : Nat) c u, p.cells[k]? = some c → v.cells.toList[k]? = some u → PRep M c u := by
  cases h with
  | agg cs vs hl ho hr => exact ⟨by simpa [Value.cells, PV.cells] using hl, ho, fun k c u h1 h2 => hr k c u h1 (by simpa [Value.cells] using h2)⟩
  | tup cs vs hl hr => exact absurd rfl (hp cs)
  | _ =>
    refine ⟨by simp [Value.cells, PV.cells], by simp [PV.cells, PV.one], fun k c u h1 h2 => ?_⟩
    cases k with
    | zero => simp [PV.cells, Value.cells] at h1 h2; subst h1; subst h2; constructor <;> assumption
    | succ k => simp [PV.cells] at h1

/-! ### Shapes: what is known of a value by its type -/
inductive Sh where
  | int (k : IntKind)
  | bool
  | str
  | lst
  | raw
  | agg (l : List Sh)
  | tup (l : List Sh)
  deriving Inhabited

mutual
def Sh.view : Sh → PV → PV
  | .int k, x => .int k x.toInt
  | .bool, x => .bool x.toBool
  | .str, x => .str x.toStr
  | .lst, x => .lst x.toLst
  | .raw, x => x
  | .agg l, x => .agg (Sh.viewA l x 0)
  | .tup l, x => .tup (Sh.viewT l x 0)
def Sh.viewA : List Sh → PV → Nat → List PV
  | [], _, _ => []
  | s :: l, x, i => s.view (x.c i) :: Sh.viewA l x (i + 1)
def Sh.viewT : List Sh → PV → Nat → List PV
  | [], _, _ => []
  | s :: l, x, i => s.view (x.r i) :: Sh.viewT l x (i + 1)
end

mutual
def Sh.fits : Sh → PV → Bool
  | .int k, x => match x with | .int k' _ => decide (k' = k) | _ => false
  | .bool, x => match x with | .bool _ => true | _ => false
  | .str, x => match x with | .str _ => true | _ => false
  | .lst, x => match x with | .lst _ => true | _ => false
  | .raw, x => x.one
  | .agg l, x => match x with | .agg cs => Sh.fitsL l cs true | _ => false
  | .tup l, x => match x with | .tup cs => Sh.fitsL l cs false | _ => false
def Sh.fitsL : List Sh → List PV → Bool → Bool
  | [], cs, _ => cs.isEmpty
  | s :: l, cs, o => match cs with | c :: cs => s.fits c && (!o || c.one) && Sh.fitsL l cs o | [] => false
end

theorem Sh.viewA_shift (l : List Sh) (c : PV) (cs : List PV) (i : Nat) : Sh.viewA l (.agg (c :: cs)) (i + 1) = Sh.viewA l (.agg cs) i := by
  induction l generalizing i with
  | nil => rfl
  | cons s l ih => simp only [Sh.viewA, ih]; rfl
theorem Sh.viewT_shift (l : List Sh) (c : PV) (cs : List PV) (i : Nat) : Sh.viewT l (.tup (c :: cs)) (i + 1) = Sh.viewT l (.tup cs) i := by
  induction l generalizing i with
  | nil => rfl
  | cons s l ih => simp only [Sh.viewT, ih]; rfl

mutual
theorem Sh.view_eq : ∀ (s : Sh) (x : PV), s.fits x = true → s.view x = x
  | .int k, x, h => by cases x <;> simp [Sh.fits] at h; subst h; rfl
  | .bool, x, h => by cases x <;> simp [Sh.fits] at h; rfl
  | .str, x, h => by cases x <;> simp [Sh.fits] at h; rfl
  | .lst, x, h => by cases x <;> simp [Sh.fits] at h; rfl
  | .raw, x, h => rfl
  | .agg l, x, h => by cases x <;> simp [Sh.fits] at h; rw [Sh.view, Sh.viewA_eq _ _ _ h]
  | .tup l, x, h => by cases x <;> simp [Sh.fits] at h; rw [Sh.view, Sh.viewT_eq _ _ _ h]
theorem Sh.viewA_eq : ∀ (l : List Sh) (cs : List PV) (o : Bool), Sh.fitsL l cs o = true → Sh.viewA l (.agg cs) 0 = cs
  | [], cs, o, h => by cases cs <;> simp [Sh.fitsL] at h; rfl
  | s :: l, cs, o, h => by
    cases cs with
    | nil => simp [Sh.fitsL] at h
    | cons c cs =>
      simp only [Sh.fitsL, Bool.and_eq_true] at h
      rw [Sh.viewA, Sh.viewA_shift, Sh.viewA_eq l cs o h.2]
      show s.view c :: cs = _
      rw [Sh.view_eq s c h.1.1]
theorem Sh.viewT_eq : ∀ (l : List Sh) (cs : List PV) (o : Bool), Sh.fitsL l cs o = true → Sh.viewT l (.tup cs) 0 = cs
  | [], cs, o, h => by cases cs <;> simp [Sh.fitsL] at h; rfl
  | s :: l, cs, o, h => by
    cases cs with
    | nil => simp [Sh.fitsL] at h
    | cons c cs =>
      simp only [Sh.fitsL, Bool.and_eq_true] at h
      rw [Sh.viewT, Sh.viewT_shift, Sh.viewT_eq l cs o h.2]
      show s.view c :: cs = _
      rw [Sh.view_eq s c h.1.1]
end

/-- The shape of a value by its zero value; of several results by their types. -/
def shCell : Value → Sh
  | .int k _ => .int k
  | .bool _ => .bool
  | .string _ => .str
  | .slice .. => .lst
  | _ => .raw
def shOf (P : Program) (t : TypeId) : Sh :=
  match P.types[t]? with
  | some i => match i.zero with
    | some (.agg cs) => .agg (cs.toList.map shCell)
    | some v => shCell v
    | none => .raw
  | none => .raw
def shRes (P : Program) (t : TypeId) : Sh :=
  match P.underlying t with
  | some (.tuple es) => .tup (es.toList.map (shOf P))
  | _ => shOf P t

end Go.AL
