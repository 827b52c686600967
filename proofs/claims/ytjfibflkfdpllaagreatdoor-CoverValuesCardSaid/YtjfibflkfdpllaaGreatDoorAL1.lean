/- The abstract machine, its soundness, and what a row needs of it: part 1. -/
import Derived.WalkKit
import Derived.KernelRfl
import Derived.Orders
import Derived.Lib.Space
import Derived.Lib.ItoaNum
import Derived.DataElems
import Derived.WideKeyRuns
import Derived.Laws.StructEq
/- The values of the abstract machine (trees without memory), what it means that a concrete value is one of them in memory that does not change, and lemmas on both. -/
set_option linter.unusedVariables false
namespace Go.AL
open Go.RowKit

inductive PV where
  | int (k : IntKind) (n : Int)
  | bool (b : Bool)
  | str (s : List UInt8)
  | nils
  | lst (xs : List PV)
  | nn (xs : List PV)
  | agg (cs : List PV)
  | tup (cs : List PV)
  | ptr (cs : List PV)
  | fn (f : FuncId) (cap : List PV)
  | nilI
  | iface (t : TypeId) (v : PV)
  | nilf
  | nilp
  deriving Inhabited

namespace PV
def cells : PV → List PV
  | agg cs => cs
  | x => [x]
def comps : PV → List PV
  | tup cs => cs
  | _ => []
/-- cell i of a struct -/
def c (x : PV) (i : Nat) : PV := match x with | agg cs => cs.getD i nilp | _ => nilp
/-- result i of several -/
def r (x : PV) (i : Nat) : PV := match x with | tup cs => cs.getD i nilp | _ => nilp
def toInt : PV → Int | int _ n => n | _ => 0
def toBool : PV → Bool | bool b => b | _ => false
def toStr : PV → List UInt8 | str s => s | _ => []
def toLst : PV → List PV | lst xs => xs | _ => []
/-- does it lie in one cell? -/
def one : PV → Bool | agg _ => false | tup _ => false | _ => true
end PV

/-- Memory that does not change. -/
abbrev Mem := Addr → Option Value

def mkStr (s : List UInt8) : ByteArray := ⟨s.toArray⟩

inductive PRep (M : Mem) : PV → Value → Prop where
  | int (k n) : PRep M (.int k n) (.int k n)
  | bool (b) : PRep M (.bool b) (.bool b)
  | str (s) : PRep M (.str s) (.string (mkStr s))
  | nils : PRep M .nils (.slice none 0 0)
  | lst (xs : List PV) (A : Option Addr) (cap sz : Nat) (vs : Nat → Nat → Value) (hsz : 0 < sz) (hcap : xs.length ≤ cap) (hs : ∀ x, x ∈ xs → x.cells.length = sz)
      (ho : ∀ x, x ∈ xs → ∀ y, y ∈ x.cells → y.one = true) (hA : 0 < cap → A ≠ none)
      (hm : ∀ ad, A = some ad → ∀ j x k y, xs[j]? = some x → x.cells[k]? = some y → M (ad.add (j * sz + k)) = some (vs j k))
      (hr : ∀ j x k y, xs[j]? = some x → x.cells[k]? = some y → PRep M y (vs j k)) : PRep M (.lst xs) (.slice A xs.length cap)
  | nn (xs : List PV) (ad : Addr) (n cap : Nat) (h : PRep M (.lst xs) (.slice (some ad) n cap)) : PRep M (.nn xs) (.slice (some ad) n cap)
  | agg (cs : List PV) (vs : List Value) (hl : vs.length = cs.length) (ho : ∀ y, y ∈ cs → y.one = true)
      (hr : ∀ (i : Nat) c v, cs[i]? = some c → vs[i]? = some v → PRep M c v) : PRep M (.agg cs) (.agg vs.toArray)
  | tup (cs : List PV) (vs : List Value) (hl : vs.length = cs.length) (hr : ∀ (i : Nat) c v, cs[i]? = some c → vs[i]? = some v → PRep M c v) : PRep M (.tup cs) (.tuple vs.toArray)
  | ptr (cs : List PV) (ad : Addr) (vs : Nat → Value) (ho : ∀ y, y ∈ cs → y.one = true) (hm : ∀ (k : Nat) c, cs[k]? = some c → M (ad.add k) = some (vs k))
      (hr : ∀ (k : Nat) c, cs[k]? = some c → PRep M c (vs k)) : PRep M (.ptr cs) (.pointer (some ad))
  | fn (f : FuncId) (cap : List PV) (vs : List Value) (hl : vs.length = cap.length) (hr : ∀ (i : Nat) c v, cap[i]? = some c → vs[i]? = some v → PRep M c v) : PRep M (.fn f cap) (.func (.func f) #[] vs.toArray)
  | nilI : PRep M .nilI .nilIface
  | iface (t : TypeId) (p : PV) (v : Value) (h : PRep M p v) : PRep M (.iface t p) (.iface t v)
  | nilf : PRep M .nilf .nilFunc
  | nilp : PRep M .nilp (.pointer none)

def Mem.le (M M' : Mem) : Prop := ∀ a v, M a = some v → M' a = some v
theorem Mem.le_refl (M : Mem) : M.le M := fun _ _ h => h
theorem Mem.le_trans {A B C : Mem} (h : A.le B) (k : B.le C) : A.le C := fun a v e => k a v (h a v e)

theorem PRep.mono {M M' : Mem} (hle : M.le M') {p : PV} {v : Value} (h : PRep M p v) : PRep M' p v := by
  induction h with
  | int k n => exact .int k n
  | bool b => exact .bool b
  | str s => exact .str s
  | nils => exact .nils
  | lst xs A cap sz vs hsz hcap hs ho hA hm hr ih => exact .lst xs A cap sz vs hsz hcap hs ho hA (fun ad e j x k y h1 h2 => hle _ _ (hm ad e j x k y h1 h2)) ih
  | nn xs ad n cap h ih => exact .nn xs ad n cap ih
  | agg cs vs hl ho hr ih => exact .agg cs vs hl ho ih
  | tup cs vs hl hr ih => exact .tup cs vs hl ih
  | ptr cs ad vs ho hm hr ih => exact .ptr cs ad vs ho (fun k c h => hle _ _ (hm k c h)) ih
  | fn f cap vs hl hr ih => exact .fn f cap vs hl ih
  | nilI => exact .nilI
  | iface t p v h ih => exact .iface t p v ih
  | nilf => exact .nilf
  | nilp => exact .nilp

theorem PRep.one {M : Mem} {p : PV} {v : Value} (h : PRep M p v) (ho : p.one = true) : v.oneCell' = true := by
  cases h <;> first | rfl | (simp [PV.one] at ho)

/-- What a value's cells are. -/
theorem PRep.cells {M : Mem} {p : PV} {v : Value} (h : PRep M p v) (hp : ∀ cs, p ≠ .tup cs) : v.cells.toList.length = p.cells.length ∧ (∀ y, y ∈ p.cells → y.one = true) ∧
    ∀ (k : Nat) c u, p.cells[k]? = some c → v.cells.toList[k]? = some u → PRep M c u := by
  cases h with
  | agg cs vs hl ho hr => exact ⟨by simpa [Value.cells, PV.cells] using hl, ho, fun k c u h1 h2 => hr k c u h1 (by simpa [Value.cells] using h2)⟩
  | tup cs vs hl hr => exact absurd rfl (hp cs)
  | _ =>
    refine ⟨by simp [Value.cells, PV.cells], by simp [PV.cells, PV.one], fun k c u h1 h2 => ?_⟩
    cases k with
    | zero => simp [PV.cells, Value.cells] at h1 h2; subst h1; subst h2; constructor <;> assumption
    | succ k => simp [PV.cells] at h1

/-! ### Shapes: what is known of a value by its type -/
inductive Sh where
  | int (k : IntKind)
  | bool
  | str
  | lst
  | raw
  | agg (l : List Sh)
  | tup (l : List Sh)
  deriving Inhabited

mutual
def Sh.view : Sh → PV → PV
  | .int k, x => .int k x.toInt
  | .bool, x => .bool x.toBool
  | .str, x => .str x.toStr
  | .lst, x => .lst x.toLst
  | .raw, x => x
  | .agg l, x => .agg (Sh.viewA l x 0)
  | .tup l, x => .tup (Sh.viewT l x 0)
def Sh.viewA : List Sh → PV → Nat → List PV
  | [], _, _ => []
  | s :: l, x, i => s.view (x.c i) :: Sh.viewA l x (i + 1)
def Sh.viewT : List Sh → PV → Nat → List PV
  | [], _, _ => []
  | s :: l, x, i => s.view (x.r i) :: Sh.viewT l x (i + 1)
end

mutual
def Sh.fits : Sh → PV → Bool
  | .int k, x => match x with | .int k' _ => decide (k' = k) | _ => false
  | .bool, x => match x with | .bool _ => true | _ => false
  | .str, x => match x with | .str _ => true | _ => false
  | .lst, x => match x with | .lst _ => true | _ => false
  | .raw, x => x.one
  | .agg l, x => match x with | .agg cs => Sh.fitsL l cs true | _ => false
  | .tup l, x => match x with | .tup cs => Sh.fitsL l cs false | _ => false
def Sh.fitsL : List Sh → List PV → Bool → Bool
  | [], cs, _ => cs.isEmpty
  | s :: l, cs, o => match cs with | c :: cs => s.fits c && (!o || c.one) && Sh.fitsL l cs o | [] => false
end

theorem Sh.viewA_shift (l : List Sh) (c : PV) (cs : List PV) (i : Nat) : Sh.viewA l (.agg (c :: cs)) (i + 1) = Sh.viewA l (.agg cs) i := by
  induction l generalizing i with
  | nil => rfl
  | cons s l ih => simp only [Sh.viewA, ih]; rfl
theorem Sh.viewT_shift (l : List Sh) (c : PV) (cs : List PV) (i : Nat) : Sh.viewT l (.tup (c :: cs)) (i + 1) = Sh.viewT l (.tup cs) i := by
  induction l generalizing i with
  | nil => rfl
  | cons s l ih => simp only [Sh.viewT, ih]; rfl

mutual
theorem Sh.view_eq : ∀ (s : Sh) (x : PV), s.fits x = true → s.view x = x
  | .int k, x, h => by cases x <;> simp [Sh.fits] at h; subst h; rfl
  | .bool, x, h => by cases x <;> simp [Sh.fits] at h; rfl
  | .str, x, h => by cases x <;> simp [Sh.fits] at h; rfl
  | .lst, x, h => by cases x <;> simp [Sh.fits] at h; rfl
  | .raw, x, h => rfl
  | .agg l, x, h => by cases x <;> simp [Sh.fits] at h; rw [Sh.view, Sh.viewA_eq _ _ _ h]
  | .tup l, x, h => by cases x <;> simp [Sh.fits] at h; rw [Sh.view, Sh.viewT_eq _ _ _ h]
theorem Sh.viewA_eq : ∀ (l : List Sh) (cs : List PV) (o : Bool), Sh.fitsL l cs o = true → Sh.viewA l (.agg cs) 0 = cs
  | [], cs, o, h => by cases cs <;> simp [Sh.fitsL] at h; rfl
  | s :: l, cs, o, h => by
    cases cs with
    | nil => simp [Sh.fitsL] at h
    | cons c cs =>
      simp only [Sh.fitsL, Bool.and_eq_true] at h
      rw [Sh.viewA, Sh.viewA_shift, Sh.viewA_eq l cs o h.2]
      show s.view c :: cs = _
      rw [Sh.view_eq s c h.1.1]
theorem Sh.viewT_eq : ∀ (l : List Sh) (cs : List PV) (o : Bool), Sh.fitsL l cs o = true → Sh.viewT l (.tup cs) 0 = cs
  | [], cs, o, h => by cases cs <;> simp [Sh.fitsL] at h; rfl
  | s :: l, cs, o, h => by
    cases cs with
    | nil => simp [Sh.fitsL] at h
    | cons c cs =>
      simp only [Sh.fitsL, Bool.and_eq_true] at h
      rw [Sh.viewT, Sh.viewT_shift, Sh.viewT_eq l cs o h.2]
      show s.view c :: cs = _
      rw [Sh.view_eq s c h.1.1]
end

/-- The shape of a value by its zero value; of several results by their types. -/
def shCell : Value → Sh
  | .int k _ => .int k
  | .bool _ => .bool
  | .string _ => .str
  | .slice .. => .lst
  | _ => .raw
def shOf (P : Program) (t : TypeId) : Sh :=
  match P.types[t]? with
  | some i => match i.zero with
    | some (.agg cs) => .agg (cs.toList.map shCell)
    | some v => shCell v
    | none => .raw
  | none => .raw
def shRes (P : Program) (t : TypeId) : Sh :=
  match P.underlying t with
  | some (.tuple es) => .tup (es.toList.map (shOf P))
  | _ => shOf P t

end Go.AL

/- What lies in memory from the beginning: the package variables that a row speaks of, by block, kind and numbers. -/
set_option linter.unusedVariables false
namespace Go.AL
open Go.RowKit

/-- None (Cover rows; other seats). ScopeShut: [(1, .u8, Lib.asciiSpaceTab), (2, .u64, Lib.pow10Tab)]; CapableOnce: the first of these; Token rows: [(5, .u8, tab64)], math/bits.deBruijn64tab. -/
def laidL : List (Nat × IntKind × List Int) := []
end Go.AL

/- The abstract state (slots, boxes, vectors, tips) and its relation to the machine's memory. -/
set_option linter.unusedVariables false
set_option linter.unusedSimpArgs false
namespace Go.AL
open Go.RowKit

/-- What a slot holds. box: a pointer into a box of the call's own; vec: a slice of the call's own whose elements may change; elt: a pointer into one;
bld: a slice that only grows; agg: a struct of such; undef: what an operation that is not performed leaves; any: nothing is known. -/
inductive AV where
  | pv (p : PV)
  | box (i off : Nat)
  | vec (i ver : Nat)
  | elt (i ver j k : Nat)
  | bld (i e : Nat) (xs : List PV)
  | agg (cs : List AV)
  | undef
  | any
  | mp (i : Nat)
  | ment (es : List (PV × PV))
  | win (i ver lo hi : Nat)
  | tupV (i ver : Nat) (ps : List PV)
  deriving Inhabited

/-- The store. 'nr', 'nv': so many boxes and vectors, the first ones, are the caller's. -/
structure St where
  bx : List (Bool × List AV)
  vc : List (Option (Nat × Nat × List PV))
  tp : List (Nat × Nat)
  nr : Nat := 0
  nv : Nat := 0
  deriving Inhabited

def St.nn (s : St) : Nat × Nat := (s.nr, s.nv)

inductive Own where
  | free
  | box (i : Nat)
  | vec (i : Nat)
  | tip (i : Nat)
  deriving Inhabited

structure VH where
  A : Option Addr
  cap : Nat
  sz : Nat

/-- What a call may write of what was there: blocks; the boxes and the vectors among them. -/
structure Fr where
  f : Nat → Prop
  rb : Nat → Option Nat
  rv : Nat → VH
  rl : Nat → Nat
  nn : Nat × Nat
instance : CoeFun Fr (fun _ => Nat → Prop) := ⟨Fr.f⟩
def Fr.none : Fr := ⟨fun _ => False, fun _ => Option.none, fun _ => ⟨Option.none, 0, 1⟩, fun _ => 0, (0, 0)⟩

structure TH where
  tail : Option Addr
  room : Nat
  sz : Nat

structure Gh where
  M : Mem
  own : Nat → Own
  μ : Nat → Option Nat
  ν : Nat → VH
  τ : Nat → TH

/-- A slice whose tail may be appended to. -/
def Tail (h : TH) (xs : List PV) (v : Value) : Prop :=
  (∃ A, v = .slice A xs.length (xs.length + h.room) ∧ (0 < xs.length + h.room → A.map (·.add (xs.length * h.sz)) = h.tail)) ∧ ∀ x, x ∈ xs → x.cells.length = h.sz

/-- Where the part of a slice begins that begins at lo. -/
def winA (h : VH) (lo : Nat) : Option Addr := if h.cap = lo then h.A else h.A.map (·.add (lo * h.sz))
def ARel1 (G : Gh) (s : St) : AV → Value → Prop
  | .pv p, v => PRep G.M p v
  | .box i off, v => i < s.bx.length ∧ ∃ b, G.μ i = some b ∧ v = .pointer (some ⟨b, off, none⟩)
  | .vec i ver, v => i < s.vc.length ∧ (∃ A n c, v = .slice A n c) ∧ ∀ cur xs, s.vc[i]? = some (some (cur, xs)) → ver ≤ cur ∧ (ver = cur → v = .slice (G.ν i).A xs.2.length (G.ν i).cap)
  | .elt i ver j k, v => i < s.vc.length ∧ (∃ q, v = .pointer (some q)) ∧ ∀ cur xs, s.vc[i]? = some (some (cur, xs)) → ver ≤ cur ∧ (ver = cur → ∃ ad, (G.ν i).A = some ad ∧ v = .pointer (some (ad.add (j * (G.ν i).sz + k))))
  | .bld i e xs, v => i < s.tp.length ∧ PRep G.M (.lst xs) v ∧ ∀ cur, s.tp[i]? = some cur → e ≤ cur.1 ∧ (e = cur.1 → Tail (G.τ i) xs v)
  | .agg _, _ => False
  | .undef, v => v = undef
  | .any, _ => True
  | .mp i, v => i < s.bx.length ∧ ∃ b, G.μ i = some b ∧ v = .map (some b)
  | .ment _, _ => False
  | .win i ver lo hi, v => i < s.vc.length ∧ (∃ A n c, v = .slice A n c) ∧ ∀ cur xs, s.vc[i]? = some (some (cur, xs)) → ver ≤ cur ∧ (ver = cur → lo ≤ hi ∧ hi ≤ xs.2.length ∧ v = .slice (winA (G.ν i) lo) (hi - lo) ((G.ν i).cap - lo))
  | .tupV i ver ps, v => ∃ u us, v = .tuple (u :: us).toArray ∧ (i < s.vc.length ∧ (∃ A n c, u = .slice A n c) ∧ ∀ cur xs, s.vc[i]? = some (some (cur, xs)) → ver ≤ cur ∧ (ver = cur → u = .slice (G.ν i).A xs.2.length (G.ν i).cap)) ∧
      us.length = ps.length ∧ ∀ (k : Nat) p z, ps[k]? = some p → us[k]? = some z → PRep G.M p z
def ARel (G : Gh) (s : St) (a : AV) (v : Value) : Prop :=
  match a with
  | .agg cs => ∃ us : List Value, v = .agg us.toArray ∧ us.length = cs.length ∧ ∀ (k : Nat) c u, cs[k]? = some c → us[k]? = some u → ARel1 G s c u ∧ u.oneCell' = true
  | a => ARel1 G s a v
theorem ARel.of1 {G : Gh} {s : St} {a : AV} {v : Value} (h : ARel1 G s a v) : ARel G s a v := by
  cases a <;> first | exact h | exact h.elim

def AV.cell : AV → Bool
  | .pv p => p.one
  | .box .. | .vec .. | .elt .. | .bld .. | .mp .. => true
  | _ => false

theorem ARel.oneCell {G : Gh} {s : St} {a : AV} {v : Value} (h : ARel G s a v) (hc : a.cell = true) : v.oneCell' = true := by
  cases a with
  | pv p => exact PRep.one h hc
  | box i off => obtain ⟨_, b, _, rfl⟩ := h; rfl
  | vec i ver => obtain ⟨_, ⟨A, n, c, rfl⟩, _⟩ := h; rfl
  | elt i ver j k => obtain ⟨_, ⟨q, rfl⟩, _⟩ := h; rfl
  | bld i e xs => cases h.2.1; rfl
  | agg cs => cases hc
  | undef => cases hc
  | any => cases hc
  | mp i => obtain ⟨_, b, _, rfl⟩ := h; rfl
  | ment es => cases hc
  | win i ver lo hi => cases hc
  | tupV i ver ps => cases hc
theorem ARel.to1 {G : Gh} {s : St} {a : AV} {v : Value} (hc : a.cell = true) (h : ARel G s a v) : ARel1 G s a v := by
  cases a <;> first | exact h | cases hc

/-- What a step may do to what is known of values. -/
structure Ext (G : Gh) (s : St) (G' : Gh) (s' : St) : Prop where
  M : G.M.le G'.M
  bl : s.bx.length ≤ s'.bx.length
  vl : s.vc.length ≤ s'.vc.length
  tl : s.tp.length ≤ s'.tp.length
  μ : ∀ i (b : Option Nat), i < s.bx.length → G.μ i = b → G'.μ i = b
  vc : ∀ i, i < s.vc.length → ∀ cur' xs', s'.vc[i]? = some (some (cur', xs')) → ∃ cur xs, s.vc[i]? = some (some (cur, xs)) ∧ cur ≤ cur' ∧ (cur = cur' → xs.2.length = xs'.2.length ∧ G'.ν i = G.ν i)
  tp : ∀ i, i < s.tp.length → ∀ cur', s'.tp[i]? = some cur' → ∃ cur, s.tp[i]? = some cur ∧ cur.1 ≤ cur'.1 ∧ (cur.1 = cur'.1 → G'.τ i = G.τ i)

theorem Ext.refl (G : Gh) (s : St) : Ext G s G s :=
  ⟨Mem.le_refl _, Nat.le_refl _, Nat.le_refl _, Nat.le_refl _, fun _ _ _ h => h, fun i _ cur xs h => ⟨cur, xs, h, Nat.le_refl _, fun _ => ⟨rfl, rfl⟩⟩, fun i _ cur h => ⟨cur, h, Nat.le_refl _, fun _ => rfl⟩⟩

theorem Ext.trans {G1 G2 G3 : Gh} {s1 s2 s3 : St} (h : Ext G1 s1 G2 s2) (k : Ext G2 s2 G3 s3) : Ext G1 s1 G3 s3 where
  M := Mem.le_trans h.M k.M
  bl := Nat.le_trans h.bl k.bl
  vl := Nat.le_trans h.vl k.vl
  tl := Nat.le_trans h.tl k.tl
  μ i b hi hb := k.μ i b (Nat.lt_of_lt_of_le hi h.bl) (h.μ i b hi hb)
  vc i hi cur' xs' e := by
    obtain ⟨c2, x2, e2, l2, q2⟩ := k.vc i (Nat.lt_of_lt_of_le hi h.vl) cur' xs' e
    obtain ⟨c1, x1, e1, l1, q1⟩ := h.vc i hi c2 x2 e2
    refine ⟨c1, x1, e1, Nat.le_trans l1 l2, fun hq => ?_⟩
    have a1 := q1 (by omega)
    have a2 := q2 (by omega)
    exact ⟨a1.1.trans a2.1, a2.2.trans a1.2⟩
  tp i hi cur' e := by
    obtain ⟨c2, e2, l2, q2⟩ := k.tp i (Nat.lt_of_lt_of_le hi h.tl) cur' e
    obtain ⟨c1, e1, l1, q1⟩ := h.tp i hi c2 e2
    exact ⟨c1, e1, Nat.le_trans l1 l2, fun hq => (q2 (by omega)).trans (q1 (by omega))⟩

theorem ARel1.ext {G G' : Gh} {s s' : St} (h : Ext G s G' s') {a : AV} {v : Value} (r : ARel1 G s a v) : ARel1 G' s' a v := by
  cases a with
  | pv p => exact PRep.mono h.M r
  | box i off => obtain ⟨hi, b, hb, rfl⟩ := r; exact ⟨Nat.lt_of_lt_of_le hi h.bl, b, h.μ i _ hi hb, rfl⟩
  | vec i ver =>
    obtain ⟨hi, ho, hv⟩ := r
    refine ⟨Nat.lt_of_lt_of_le hi h.vl, ho, fun cur' xs' e => ?_⟩
    obtain ⟨cur, xs, e1, l1, q1⟩ := h.vc i hi cur' xs' e
    obtain ⟨g1, g2⟩ := hv cur xs e1
    refine ⟨Nat.le_trans g1 l1, fun hq => ?_⟩
    obtain ⟨a1, a2⟩ := q1 (by omega)
    rw [a2, ← a1]
    exact g2 (by omega)
  | elt i ver j k =>
    obtain ⟨hi, ho, hv⟩ := r
    refine ⟨Nat.lt_of_lt_of_le hi h.vl, ho, fun cur' xs' e => ?_⟩
    obtain ⟨cur, xs, e1, l1, q1⟩ := h.vc i hi cur' xs' e
    obtain ⟨g1, g2⟩ := hv cur xs e1
    refine ⟨Nat.le_trans g1 l1, fun hq => ?_⟩
    obtain ⟨a1, a2⟩ := q1 (by omega)
    rw [a2]
    exact g2 (by omega)
  | bld i e xs =>
    obtain ⟨hi, hp, hv⟩ := r
    refine ⟨Nat.lt_of_lt_of_le hi h.tl, PRep.mono h.M hp, fun cur' e' => ?_⟩
    obtain ⟨cur, e1, l1, q1⟩ := h.tp i hi cur' e'
    obtain ⟨g1, g2⟩ := hv cur e1
    refine ⟨Nat.le_trans g1 l1, fun hq => ?_⟩
    rw [q1 (by omega)]
    exact g2 (by omega)
  | agg cs => exact r.elim
  | undef => exact r
  | any => trivial
  | mp i => obtain ⟨hi, b, hb, rfl⟩ := r; exact ⟨Nat.lt_of_lt_of_le hi h.bl, b, h.μ i _ hi hb, rfl⟩
  | ment es => exact r.elim
  | win i ver lo hi =>
    obtain ⟨hi', ho, hv⟩ := r
    refine ⟨Nat.lt_of_lt_of_le hi' h.vl, ho, fun cur' xs' e => ?_⟩
    obtain ⟨cur, xs, e1, l1, q1⟩ := h.vc i hi' cur' xs' e
    obtain ⟨g1, g2⟩ := hv cur xs e1
    refine ⟨Nat.le_trans g1 l1, fun hq => ?_⟩
    obtain ⟨a1, a2⟩ := q1 (by omega)
    rw [a2, ← a1]
    exact g2 (by omega)
  | tupV i ver ps =>
    obtain ⟨u, us, rfl, ⟨hi, ho, hv⟩, hl, hp⟩ := r
    refine ⟨u, us, rfl, ⟨Nat.lt_of_lt_of_le hi h.vl, ho, fun cur' xs' e => ?_⟩, hl, fun k p z h1 h2 => (hp k p z h1 h2).mono h.M⟩
    obtain ⟨cur, xs, e1, l1, q1⟩ := h.vc i hi cur' xs' e
    obtain ⟨g1, g2⟩ := hv cur xs e1
    refine ⟨Nat.le_trans g1 l1, fun hq => ?_⟩
    obtain ⟨a1, a2⟩ := q1 (by omega)
    rw [a2, ← a1]
    exact g2 (by omega)
theorem ARel.ext {G G' : Gh} {s s' : St} (h : Ext G s G' s') {a : AV} {v : Value} (r : ARel G s a v) : ARel G' s' a v := by
  cases a with
  | agg cs =>
    obtain ⟨us, e, hl, hr⟩ := r
    exact ⟨us, e, hl, fun k c u h1 h2 => ⟨(hr k c u h1 h2).1.ext h, (hr k c u h1 h2).2⟩⟩
  | pv p => exact ARel1.ext (a := .pv p) h r
  | box i o => exact ARel1.ext (a := .box i o) h r
  | vec i o => exact ARel1.ext (a := .vec i o) h r
  | elt i o j k => exact ARel1.ext (a := .elt i o j k) h r
  | bld i e xs => exact ARel1.ext (a := .bld i e xs) h r
  | undef => exact r
  | any => trivial
  | mp i => exact ARel1.ext (a := .mp i) h r
  | ment es => exact r.elim
  | win i ver lo hi => exact ARel1.ext (a := .win i ver lo hi) h r
  | tupV i ver ps => exact ARel1.ext (a := .tupV i ver ps) h r

/-- The entries of a map. -/
def MRel (M : Mem) (es : List (PV × PV)) (en : Array MapEntry) : Prop :=
  en.size = es.length ∧ ∀ (i : Nat) e x, es[i]? = some e → en[i]? = some x → PRep M e.1 x.key ∧ PRep M e.2 x.val
theorem MRel.mono {M M' : Mem} (h : M.le M') {es : List (PV × PV)} {en : Array MapEntry} (r : MRel M es en) : MRel M' es en :=
  ⟨r.1, fun i e x h1 h2 => ⟨(r.2 i e x h1 h2).1.mono h, (r.2 i e x h1 h2).2.mono h⟩⟩

/-- What a box holds: cells; or a map. -/
def BRel (G : Gh) (s : St) (cs : List AV) (o : Obj) : Prop :=
  (∃ vs T, o = .cells vs T (0, 0) ∧ vs.size = cs.length ∧ ∀ (k : Nat) c v, cs[k]? = some c → vs[k]? = some v → ARel G s c v ∧ v.oneCell' = true) ∨
  ∃ es en ck, cs = [.ment es] ∧ o = .map en ck ∧ MRel G.M es en
theorem BRel.ext {G G' : Gh} {s s' : St} (h : Ext G s G' s') {cs : List AV} {o : Obj} (r : BRel G s cs o) : BRel G' s' cs o := by
  rcases r with ⟨vs, T, e, hl, hr⟩ | ⟨es, en, ck, e1, e2, hr⟩
  · exact .inl ⟨vs, T, e, hl, fun k c v h1 h2 => ⟨(hr k c v h1 h2).1.ext h, (hr k c v h1 h2).2⟩⟩
  · exact .inr ⟨es, en, ck, e1, e2, hr.mono h.M⟩
theorem BRel.imp {G G' : Gh} {s s' : St} (hM : G.M.le G'.M) (h : ∀ a v, ARel G s a v → ARel G' s' a v) {cs : List AV} {o : Obj} (r : BRel G s cs o) : BRel G' s' cs o := by
  rcases r with ⟨vs, T, e, hl, hr⟩ | ⟨es, en, ck, e1, e2, hr⟩
  · exact .inl ⟨vs, T, e, hl, fun k c v h1 h2 => ⟨h _ _ (hr k c v h1 h2).1, (hr k c v h1 h2).2⟩⟩
  · exact .inr ⟨es, en, ck, e1, e2, hr.mono hM⟩
/-- Is it no map? -/
def isCells : List AV → Bool
  | [.ment _] => false
  | _ => true
theorem BRel.cells {G : Gh} {s : St} {cs : List AV} {o : Obj} (r : BRel G s cs o) (h : isCells cs = true) :
    ∃ vs T, o = .cells vs T (0, 0) ∧ vs.size = cs.length ∧ ∀ (k : Nat) c v, cs[k]? = some c → vs[k]? = some v → ARel G s c v ∧ v.oneCell' = true := by
  rcases r with r | ⟨es, en, ck, e1, _⟩
  · exact r
  · subst e1; cases h
theorem BRel.map {G : Gh} {s : St} {es : List (PV × PV)} {o : Obj} (r : BRel G s [.ment es] o) : ∃ en ck, o = .map en ck ∧ MRel G.M es en := by
  rcases r with ⟨vs, T, e, hl, hr⟩ | ⟨es', en, ck, e1, e2, hr⟩
  · have h0 : 0 < vs.size := by simp at hl; omega
    exact ((hr 0 _ vs[0] rfl (Array.getElem?_eq_getElem h0)).1).elim
  · simp only [List.cons.injEq, AV.ment.injEq, and_true] at e1
    subst e1
    exact ⟨en, ck, e2, hr⟩
theorem BRel.isCells {G : Gh} {s : St} {cs : List AV} {vs : Array Value} {T : TypeId} (r : BRel G s cs (.cells vs T (0, 0))) : vs.size = cs.length ∧ ∀ (k : Nat) c v, cs[k]? = some c → vs[k]? = some v → ARel G s c v ∧ v.oneCell' = true := by
  rcases r with ⟨vs', T', e, hl, hr⟩ | ⟨es', en, ck, e1, e2, hr⟩
  · cases e; exact ⟨hl, hr⟩
  · cases e2

/-- The package variables that are laid: their blocks hold their numbers, and are nobody's to change. -/
def LaidW (F : Fr) (w0 : World) : Prop := ∀ x, x ∈ laidL → x.1 < w0.heap.size ∧ ¬ F x.1 ∧ ∃ T, w0.heap[x.1]? = some (.cells (x.2.2.map fun z => Value.int x.2.1 z).toArray T (0, 0))
structure SRel (F : Fr) (w0 : World) (M0 : Mem) (G : Gh) (s : St) (w : World) : Prop where
  os : w.os = w0.os
  tape : w.tape = w0.tape
  output : w.output = w0.output
  size : w0.heap.size ≤ w.heap.size
  old : ∀ k, k < w0.heap.size → ¬ F k → w.heap[k]? = w0.heap[k]?
  agree : ∀ a v, G.M a = some v → w.cell? a = some v
  base : M0.le G.M
  lay : LaidW F w0
  newM : ∀ a v, G.M a = some v → M0 a = some v ∨ w0.heap.size ≤ a.block ∨ F a.block
  own : ∀ b, G.own b ≠ .free → b < w.heap.size ∧ (F b ∨ w0.heap.size ≤ b)
  ownM : ∀ a v, G.M a = some v → G.own a.block = .free ∨ ∃ i ad, i < s.tp.length ∧ G.own a.block = .tip i ∧ (G.τ i).tail = some ad ∧ a.off < ad.off
  bx : ∀ i z cs b, s.bx[i]? = some (z, cs) → G.μ i = some b → G.own b = (bif z then .free else .box i) ∧ b < w.heap.size ∧ (F b ∨ w0.heap.size ≤ b) ∧ ∃ o, w.heap[b]? = some o ∧ BRel G s cs o
  vc : ∀ i ver sz xs, s.vc[i]? = some (some (ver, sz, xs)) → ((G.ν i).sz = sz ∧ 0 < (G.ν i).sz) ∧ (∀ x, x ∈ xs → x.cells.length = (G.ν i).sz ∧ ∀ y, y ∈ x.cells → y.one = true) ∧
    (((G.ν i).A = none ∧ (G.ν i).cap = 0 ∧ xs = []) ∨ ∃ b o vs T, (G.ν i).A = some ⟨b, o, none⟩ ∧ G.own b = .vec i ∧ w.heap[b]? = some (.cells vs T (0, 0)) ∧
      o + (G.ν i).cap * (G.ν i).sz ≤ vs.size ∧ xs.length ≤ (G.ν i).cap ∧
      ∀ j x k y, xs[j]? = some x → x.cells[k]? = some y → ∃ v, vs[o + (j * (G.ν i).sz + k)]? = some v ∧ PRep G.M y v)
  tp : ∀ i e, s.tp[i]? = some e → ((G.τ i).sz = e.2 ∧ 0 < (G.τ i).sz) ∧ (((G.τ i).tail = none ∧ (G.τ i).room = 0) ∨ ∃ b o vs T, (G.τ i).tail = some ⟨b, o, none⟩ ∧ G.own b = .tip i ∧
      w.heap[b]? = some (.cells vs T (0, 0)) ∧ o + (G.τ i).room * (G.τ i).sz ≤ vs.size)
  rt : s.nn = F.nn ∧ ∀ i, i < s.nr → i < s.bx.length ∧ ∃ b, G.μ i = some b ∧ F.rb i = some b
  rv : ∀ i, i < s.nv → i < s.vc.length ∧ ∀ xs, s.vc[i]? = some (some (0, xs)) → G.ν i = F.rv i ∧ xs.2.length = F.rl i

section
variable {F : Fr} {w0 : World} {M0 : Mem} {G : Gh} {s : St} {w : World}
theorem SRel.lay_at (h : SRel F w0 M0 G s w) {x : Nat × IntKind × List Int} (hx : x ∈ laidL) : G.own x.1 = .free ∧ x.1 < w.heap.size ∧ ∃ T, w.heap[x.1]? = some (.cells (x.2.2.map fun z => Value.int x.2.1 z).toArray T (0, 0)) := by
  obtain ⟨l1, l2, T, l3⟩ := h.lay x hx
  refine ⟨?_, Nat.lt_of_lt_of_le l1 h.size, T, (h.old _ l1 l2).trans l3⟩
  cases ho : G.own x.1 with
  | free => rfl
  | _ =>
    rcases (h.own x.1 (by rw [ho]; simp)).2 with e | e
    · exact absurd e l2
    · omega
theorem SRel.layW (h : SRel F w0 M0 G s w) {F' : Fr} (hF : ∀ b, F' b → G.own b ≠ .free) : LaidW F' w := fun x hx => by
  obtain ⟨h1, h2, h3⟩ := h.lay_at hx
  exact ⟨h2, fun hf => hF _ hf h1, h3⟩
end
/-- A draw changes nothing. -/
theorem SRel.drew {F : Fr} {w0 : World} {M0 : Mem} {G : Gh} {s : St} {w : World} (h : SRel F w0 M0 G s w) : SRel F w0 M0 G s w.drew :=
  ⟨h.os, h.tape, h.output, h.size, h.old, h.agree, h.base, h.lay, h.newM, h.own, h.ownM, h.bx, h.vc, h.tp, h.rt, h.rv⟩

def FRel (G : Gh) (s : St) (t : List AV) (tm : Array Value) : Prop :=
  tm.size = t.length ∧ ∀ (i : Nat) a v, t[i]? = some a → tm[i]? = some v → ARel G s a v

structure AS where
  t : List AV
  s : St
  deriving Inhabited

structure R (F : Fr) (w0 : World) (M0 : Mem) (G : Gh) (x : AS) (a : Act) (w : World) : Prop where
  S : SRel F w0 M0 G x.s w
  T : FRel G x.s x.t a.tmps
  D : a.defers = []

def AS.put (x : AS) (dst : Option Tmp) (v : AV) : AS :=
  match dst with
  | some d => { x with t := x.t.set d v }
  | none => x

theorem FRel.ext {G G' : Gh} {s s' : St} (h : Ext G s G' s') {t : List AV} {tm : Array Value} (r : FRel G s t tm) : FRel G' s' t tm :=
  ⟨r.1, fun i a v h1 h2 => (r.2 i a v h1 h2).ext h⟩

theorem FRel.set {G : Gh} {s : St} {t : List AV} {tm : Array Value} (r : FRel G s t tm) (d : Nat) {a : AV} {v : Value} (hv : ARel G s a v) : FRel G s (t.set d a) (tm.setIfInBounds d v) := by
  refine ⟨by simpa using r.1, fun i a' v' h1 h2 => ?_⟩
  by_cases hd : d = i
  · subst hd
    by_cases hb : d < t.length
    · rw [List.getElem?_set_self hb] at h1
      have hb2 : d < tm.size := by rw [r.1]; exact hb
      simp [Array.getElem?_setIfInBounds, hb2] at h2
      obtain rfl := Option.some.inj h1
      subst h2
      exact hv
    · rw [List.getElem?_eq_none (by simpa using hb)] at h1
      cases h1
  · rw [List.getElem?_set_ne hd] at h1
    rw [Array.getElem?_setIfInBounds_ne hd] at h2
    exact r.2 i a' v' h1 h2

/-- A step that leaves a value, and a store. -/
theorem R.put {F : Fr} {w0 : World} {M0 : Mem} {G G' : Gh} {x : AS} {a : Act} {w w' : World} (h : R F w0 M0 G x a w) {s' : St} (hS : SRel F w0 M0 G' s' w') (he : Ext G x.s G' s')
    (dst : Option Tmp) {b : AV} {v : Value} (hv : ARel G' s' b v) : R F w0 M0 G' ({ x with s := s' }.put dst b) (a.put dst v) w' := by
  cases dst with
  | none => exact ⟨hS, h.T.ext he, h.D⟩
  | some d => exact ⟨hS, (h.T.ext he).set d hv, h.D⟩

/-! ### A loop's head: what is known of the slots that are kept; boxes, vectors and builders numbered anew -/
inductive Place where
  | slot (t : Nat)
  | cell (b k : Nat)
  deriving Inhabited

structure Head where
  keep : List Nat
  nb : Nat
  tips : List (Place × Nat)
  vecs : List Place
  deriving Inhabited

def AS.read (x : AS) : Place → Option AV
  | .slot t => x.t[t]?
  | .cell b k => match x.s.bx[b]? with | some (_, cs) => cs[k]? | none => none

/-- A nil slice at a place becomes a builder. -/
def AS.adopt (x : AS) (q : Place × Nat) : AS :=
  match q.1 with
  | .slot t => match x.t[t]? with
    | some (.pv .nils) => ⟨x.t.set t (.bld x.s.tp.length 0 []), { x.s with tp := x.s.tp ++ [(0, q.2 + 1)] }⟩
    | _ => x
  | .cell b k => match x.s.bx[b]? with
    | some (false, cs) => match cs[k]? with
      | some (.pv .nils) => ⟨x.t, { x.s with bx := x.s.bx.set b (false, cs.set k (.bld x.s.tp.length 0 [])), tp := x.s.tp ++ [(0, q.2 + 1)] }⟩
      | _ => x
    | _ => x

def pos (l : List Nat) (i : Nat) : Option Nat :=
  match l with
  | [] => none
  | a :: l => bif Nat.beq a i then some 0 else match pos l i with | some j => some (j + 1) | none => none

/-- A vector of the caller's keeps its version. -/
def vver (nv i cur : Nat) : Nat := bif Nat.blt i nv then cur else 0
def vmOf (nv : Nat) (l : List Nat) : List Nat := List.range nv ++ l.filter fun i => Nat.ble nv i
def AV.norm (s : St) (nb : Nat) (tm vm : List Nat) : AV → AV
  | .box i off => bif Nat.blt i nb then .box i off else .any
  | .mp i => bif Nat.blt i nb then .mp i else .any
  | .vec i ver => match pos vm i with
    | some j => match s.vc[i]? with
      | some (some (cur, _)) => bif Nat.beq cur ver then .vec j (vver s.nv i ver) else .any
      | _ => .any
    | none => .any
  | .elt .. => .any
  | .win .. => .any
  | .tupV .. => .any
  | .agg _ => .any
  | .bld i e xs => match pos tm i with
    | some j => match s.tp[i]? with
      | some cur => bif Nat.beq cur.1 e then .bld j 0 xs else .pv (.lst xs)
      | none => .pv (.lst xs)
    | none => .pv (.lst xs)
  | x => x

def St.norm (s : St) (nb : Nat) (tm vm : List Nat) : St :=
  ⟨(s.bx.take nb).map fun c => (c.1, c.2.map (AV.norm s nb tm vm)), vm.map fun i => match s.vc[i]? with | some (some (cur, xs)) => some (vver s.nv i cur, xs) | _ => none, tm.map fun i => (0, (s.tp.getD i (0, 1)).2), s.nr, s.nv⟩

def keepT (s : St) (nb : Nat) (tm vm : List Nat) (keep : List Nat) : List AV → Nat → List AV
  | [], _ => []
  | a :: l, i => (bif keep.any (fun j => Nat.beq j i) then a.norm s nb tm vm else .any) :: keepT s nb tm vm keep l (i + 1)

def nodup : List Nat → Bool
  | [] => true
  | a :: l => !(l.any fun b => Nat.beq a b) && nodup l

def AS.tipsAt (x : AS) : List Place → List Nat
  | [] => []
  | p :: l => match x.read p with | some (.bld i _ _) => bif Nat.blt i x.s.tp.length then i :: AS.tipsAt x l else AS.tipsAt x l | _ => AS.tipsAt x l
def AS.vecsAt (x : AS) : List Place → List Nat
  | [] => []
  | p :: l => match x.read p with | some (.vec i _) => i :: AS.vecsAt x l | _ => AS.vecsAt x l

def AS.numbered (h : Head) (x : AS) : Option AS :=
  bif nodup (x.tipsAt (h.tips.map (·.1))) && nodup (vmOf x.s.nv (x.vecsAt h.vecs)) then
    some ⟨keepT x.s (Nat.max h.nb x.s.nr) (x.tipsAt (h.tips.map (·.1))) (vmOf x.s.nv (x.vecsAt h.vecs)) h.keep x.t 0, x.s.norm (Nat.max h.nb x.s.nr) (x.tipsAt (h.tips.map (·.1))) (vmOf x.s.nv (x.vecsAt h.vecs))⟩
  else none
def AS.head (h : Head) (x : AS) : Option AS := (h.tips.foldl AS.adopt x).numbered h

/-! #### The proof -/
theorem beq_eq {a b : Nat} (h : Nat.beq a b = true) : a = b := Nat.eq_of_beq_eq_true h
theorem blt_lt {a b : Nat} (h : Nat.blt a b = true) : a < b := by have := Nat.le_of_ble_eq_true h; omega

theorem pos_get {l : List Nat} {i j : Nat} (h : pos l i = some j) : l[j]? = some i := by
  induction l generalizing j with
  | nil => cases h
  | cons a l ih =>
    simp only [pos] at h
    cases hb : Nat.beq a i with
    | true => rw [hb] at h; obtain rfl := Option.some.inj h; rw [beq_eq hb]; rfl
    | false =>
      rw [hb] at h
      simp only [cond_false] at h
      cases hp : pos l i with
      | none => rw [hp] at h; cases h
      | some m => rw [hp] at h; obtain rfl := Option.some.inj h; simpa using ih hp

theorem nodup_pos {l : List Nat} (hn : nodup l = true) {i j : Nat} (h : l[j]? = some i) : pos l i = some j := by
  induction l generalizing j with
  | nil => simp at h
  | cons a l ih =>
    simp only [nodup, Bool.and_eq_true] at hn
    cases j with
    | zero =>
      simp at h; subst h
      have : Nat.beq a a = true := Nat.beq_refl a
      simp [pos, this]
    | succ j =>
      simp only [List.getElem?_cons_succ] at h
      have hm : i ∈ l := List.mem_of_getElem? h
      have hne : Nat.beq a i = false := by
        cases hb : Nat.beq a i with
        | false => rfl
        | true =>
          have : (l.any fun b => Nat.beq a b) = true := List.any_eq_true.2 ⟨i, hm, hb⟩
          rw [this] at hn
          cases hn.1
      simp [pos, hne, ih hn.2 h]

section
variable {F : Fr} {w0 : World} {M0 : Mem} {G : Gh} {x : AS} {a : Act} {w : World}

/-- A new builder, of nothing. -/
theorem SRel.newTip {s : St} (h : SRel F w0 M0 G s w) (sz : Nat) (hsz : 0 < sz) : ∃ G', SRel F w0 M0 G' { s with tp := s.tp ++ [(0, sz)] } w ∧ Ext G s G' { s with tp := s.tp ++ [(0, sz)] } ∧
    ∀ v, PRep G'.M .nils v → ARel G' { s with tp := s.tp ++ [(0, sz)] } (.bld s.tp.length 0 []) v := by
  let G' : Gh := { G with τ := fun i => if i = s.tp.length then ⟨none, 0, sz⟩ else G.τ i }
  have he : Ext G s G' { s with tp := s.tp ++ [(0, sz)] } :=
    ⟨Mem.le_refl _, Nat.le_refl _, Nat.le_refl _, by simp, fun _ _ _ h => h, fun i _ cur xs h => ⟨cur, xs, h, Nat.le_refl _, fun _ => ⟨rfl, rfl⟩⟩, fun i hi cur hc => by
      rw [List.getElem?_append_left hi] at hc
      exact ⟨cur, hc, Nat.le_refl _, fun _ => by simp only [G']; rw [if_neg (by omega)]⟩⟩
  refine ⟨G', ⟨h.os, h.tape, h.output, h.size, h.old, h.agree, h.base, h.lay, h.newM, h.own, ?_, ?_, ?_, ?_, h.rt, h.rv⟩, he, ?_⟩
  · intro a v hM
    rcases h.ownM a v hM with e | ⟨i, ad, hi, e1, e2, e3⟩
    · exact .inl e
    · refine .inr ⟨i, ad, by simp; omega, e1, ?_, e3⟩
      simp only [G']; rw [if_neg (by omega)]; exact e2
  · intro i z cs b h1 h2
    obtain ⟨q1, q2, q3, o, q4, q5⟩ := h.bx i z cs b h1 h2
    exact ⟨q1, q2, q3, o, q4, q5.ext he⟩
  · exact h.vc
  · intro i e hi
    by_cases hl : i < s.tp.length
    · rw [List.getElem?_append_left hl] at hi
      simp only [G']; rw [if_neg (by omega)]
      exact h.tp i e hi
    · have hil : i < (s.tp ++ [(0, sz)]).length := (List.getElem?_eq_some_iff.1 hi).1
      have : i = s.tp.length := by simp at hil; omega
      simp only [G']; rw [if_pos this]
      subst this
      simp at hi
      subst hi
      exact ⟨⟨rfl, hsz⟩, .inl ⟨rfl, rfl⟩⟩
  · intro v hv
    cases hv
    refine ⟨by simp, .lst [] none 0 1 (fun _ _ => undef) (by omega) (by simp) (by simp) (by simp) (by simp) (by simp) (by simp), fun cur hc => ?_⟩
    simp at hc
    subst hc
    refine ⟨Nat.le_refl _, fun _ => ⟨⟨none, ?_, ?_⟩, by simp⟩⟩
    · simp [G']
    · simp [G']

theorem R.adopt (h : R F w0 M0 G x a w) (q : Place × Nat) : ∃ G', R F w0 M0 G' (x.adopt q) a w := by
  unfold AS.adopt
  split
  · rename_i t ht0
    split
    · rename_i ht
      obtain ⟨G', hS, he, hv⟩ := h.S.newTip (q.2 + 1) (by omega)
      refine ⟨G', hS, ⟨by simpa using h.T.1, fun i b v h1 h2 => ?_⟩, h.D⟩
      by_cases hd : t = i
      · subst hd
        have hb : t < x.t.length := (List.getElem?_eq_some_iff.1 ht).1
        rw [List.getElem?_set_self hb] at h1
        obtain rfl := Option.some.inj h1
        exact hv v (PRep.mono he.M (h.T.2 t _ v ht h2))
      · rw [List.getElem?_set_ne hd] at h1
        exact (h.T.2 i b v h1 h2).ext he
    · exact ⟨G, h⟩
  · rename_i b k hk0
    split
    · rename_i cs hb
      split
      · rename_i hk
        obtain ⟨G', hS, he, hv⟩ := h.S.newTip (q.2 + 1) (by omega)
        have he2 : Ext G' { x.s with tp := x.s.tp ++ [(0, q.2 + 1)] } G' { x.s with bx := x.s.bx.set b (false, cs.set k (.bld x.s.tp.length 0 [])), tp := x.s.tp ++ [(0, q.2 + 1)] } :=
          ⟨Mem.le_refl _, by simp, Nat.le_refl _, Nat.le_refl _, fun _ _ _ h => h, fun i _ cur xs h => ⟨cur, xs, h, Nat.le_refl _, fun _ => ⟨rfl, rfl⟩⟩, fun i hi cur hc => ⟨cur, hc, Nat.le_refl _, fun _ => rfl⟩⟩
        refine ⟨G', ⟨hS.os, hS.tape, hS.output, hS.size, hS.old, hS.agree, hS.base, hS.lay, hS.newM, hS.own, hS.ownM, ?_, hS.vc, hS.tp, ⟨hS.rt.1, fun i hi => ⟨by simpa using (hS.rt.2 i hi).1, (hS.rt.2 i hi).2⟩⟩, hS.rv⟩, (h.T.ext he).ext he2, h.D⟩
        intro i z cs' b' h1 h2
        by_cases hd : b = i
        · subst hd
          have hlt : b < x.s.bx.length := (List.getElem?_eq_some_iff.1 hb).1
          simp only [List.getElem?_set_self hlt, Option.some.injEq, Prod.mk.injEq] at h1
          obtain ⟨rfl, rfl⟩ := h1
          obtain ⟨q1, q2, q3, ob, q4, q0⟩ := hS.bx b false cs b' hb h2
          rcases q0 with ⟨vs, T, q7, q5, q6⟩ | ⟨es, en, ck, q7, _⟩
          rotate_left
          · subst q7
            cases k with
            | zero => simp at hk
            | succ k => simp at hk
          refine ⟨q1, q2, q3, ob, q4, .inl ⟨vs, T, q7, by simpa using q5, fun m c v hm hvm => ?_⟩⟩
          by_cases hkm : k = m
          · subst hkm
            have hkl : k < cs.length := (List.getElem?_eq_some_iff.1 hk).1
            rw [List.getElem?_set_self hkl] at hm
            obtain rfl := Option.some.inj hm
            obtain ⟨g1, g2⟩ := q6 k _ v hk hvm
            exact ⟨(hv v g1).ext he2, g2⟩
          · rw [List.getElem?_set_ne hkm] at hm
            obtain ⟨g1, g2⟩ := q6 m c v hm hvm
            exact ⟨g1.ext he2, g2⟩
        · simp only [List.getElem?_set_ne hd] at h1
          obtain ⟨q1, q2, q3, ob, q4, q5⟩ := hS.bx i z cs' b' h1 h2
          exact ⟨q1, q2, q3, ob, q4, q5.ext he2⟩
      · exact ⟨G, h⟩
    · exact ⟨G, h⟩

def Gh.norm (G : Gh) (tm vm : List Nat) : Gh where
  M := G.M
  own b := match G.own b with
    | .tip i => match pos tm i with | some j => .tip j | none => .free
    | .vec i => match pos vm i with | some j => .vec j | none => .free
    | o => o
  μ := G.μ
  ν j := G.ν (vm.getD j 0)
  τ j := G.τ (tm.getD j 0)

theorem ARel.norm {s : St} (nb : Nat) (tm vm : List Nat) {b : AV} {v : Value} (r : ARel G s b v) : ARel (G.norm tm vm) (s.norm nb tm vm) (b.norm s nb tm vm) v := by
  cases b with
  | pv p => exact r
  | box i off =>
    simp only [AV.norm]
    cases hb : Nat.blt i nb with
    | false => exact trivial
    | true =>
      obtain ⟨hi, b, h1, h2⟩ := r
      exact ⟨by simp [St.norm]; exact Nat.lt_min.2 ⟨blt_lt hb, hi⟩, b, h1, h2⟩
  | vec i ver =>
    simp only [AV.norm]
    split
    · rename_i j hj
      split
      · rename_i cur xs hc
        cases hb : Nat.beq cur ver with
        | false => exact trivial
        | true =>
          obtain ⟨hi, ho, hv⟩ := r
          have hg := pos_get hj
          have hjl : j < vm.length := (List.getElem?_eq_some_iff.1 hg).1
          refine ⟨by simpa [St.norm] using hjl, ho, fun cur' xs' e => ?_⟩
          simp only [St.norm, List.getElem?_map, hg, Option.map_some, hc, Option.some.injEq, Prod.mk.injEq] at e
          obtain ⟨rfl, rfl⟩ := e
          obtain rfl := beq_eq hb
          refine ⟨Nat.le_refl _, fun _ => ?_⟩
          obtain ⟨g1, g2⟩ := hv cur xs hc
          have : vm.getD j 0 = i := by simp [List.getD_eq_getElem?_getD, hg]
          simp only [Gh.norm, this]
          exact g2 rfl
      · exact trivial
    · exact trivial
  | elt i ver j k => exact trivial
  | win i ver lo hi => exact trivial
  | tupV i ver ps => exact trivial
  | agg cs => exact trivial
  | bld i e xs =>
    simp only [AV.norm]
    split
    · rename_i j hj
      split
      · rename_i cur hc
        cases hb : Nat.beq cur.1 e with
        | false => exact r.2.1
        | true =>
          obtain ⟨hi, hp, hv⟩ := r
          have hg := pos_get hj
          have hjl : j < tm.length := (List.getElem?_eq_some_iff.1 hg).1
          refine ⟨by simpa [St.norm] using hjl, hp, fun cur' e' => ?_⟩
          simp only [St.norm, List.getElem?_map, hg, Option.map_some, Option.some.injEq] at e'
          subst e'
          refine ⟨Nat.le_refl _, fun _ => ?_⟩
          have : tm.getD j 0 = i := by simp [List.getD_eq_getElem?_getD, hg]
          simp only [Gh.norm, this]
          exact (hv cur hc).2 (beq_eq hb).symm
      · exact r.2.1
    · exact r.2.1
  | undef => exact r
  | any => trivial
  | mp i =>
    simp only [AV.norm]
    cases hb : Nat.blt i nb with
    | false => exact trivial
    | true =>
      obtain ⟨hi, b, h1, h2⟩ := r
      exact ⟨by simp [St.norm]; exact Nat.lt_min.2 ⟨blt_lt hb, hi⟩, b, h1, h2⟩
  | ment es => exact r

theorem SRel.norm {s : St} (h : SRel F w0 M0 G s w) (nb : Nat) (tm vm : List Nat) (htm : nodup tm = true) (hvm : nodup vm = true) (htl : ∀ i, i ∈ tm → i < s.tp.length) (hnr : s.nr ≤ nb)
    (hnv : ∀ i, i < s.nv → vm[i]? = some i) : SRel F w0 M0 (G.norm tm vm) (s.norm nb tm vm) w := by
  refine ⟨h.os, h.tape, h.output, h.size, h.old, h.agree, h.base, h.lay, h.newM, ?_, ?_, ?_, ?_, ?_, ?_, ?_⟩
  · intro b hb
    refine h.own b (fun e => hb ?_)
    simp only [Gh.norm, e]
  · intro a v hM
    rcases h.ownM a v hM with e | ⟨i, ad, hi, e, e2, e3⟩
    · left; simp only [Gh.norm, e]
    · cases hp : pos tm i with
      | none => left; simp only [Gh.norm, e, hp]
      | some j =>
        right
        have hg := pos_get hp
        have hjl : j < tm.length := (List.getElem?_eq_some_iff.1 hg).1
        refine ⟨j, ad, by simpa [St.norm] using hjl, by simp only [Gh.norm, e, hp], ?_, e3⟩
        have : tm.getD j 0 = i := by simp [List.getD_eq_getElem?_getD, hg]
        simp only [Gh.norm, this]
        exact e2
  · intro i z cs b h1 h2
    simp only [St.norm, List.getElem?_map, List.getElem?_take] at h1
    split at h1
    · cases hcs : s.bx[i]? with
      | none => rw [hcs] at h1; cases h1
      | some c0 =>
        rw [hcs] at h1
        simp only [Option.map_some, Option.some.injEq, Prod.mk.injEq] at h1
        obtain ⟨rfl, rfl⟩ := h1
        obtain ⟨q1, q2, q3, ob, q4, q0⟩ := h.bx i c0.1 c0.2 b hcs h2
        refine ⟨?_, q2, q3, ob, q4, ?_⟩
        · cases hz : c0.1 <;> rw [hz] at q1 <;> simp only [Gh.norm, q1, cond_true, cond_false]
        rcases q0 with ⟨vs, T, q7, q5, q6⟩ | ⟨es, en, ck, q7, q8, q9⟩
        · refine .inl ⟨vs, T, q7, by simpa using q5, fun k c v hk hv => ?_⟩
          rw [List.getElem?_map] at hk
          cases hc0 : c0.2[k]? with
          | none => rw [hc0] at hk; cases hk
          | some c' =>
            rw [hc0] at hk
            simp only [Option.map_some, Option.some.injEq] at hk
            subst hk
            obtain ⟨q1, q2⟩ := q6 k c' v hc0 hv
            exact ⟨q1.norm nb tm vm, q2⟩
        · exact .inr ⟨es, en, ck, by rw [q7]; rfl, q8, q9⟩
    · simp at h1
  · intro j ver sz xs e
    simp only [St.norm, List.getElem?_map] at e
    cases hj : vm[j]? with
    | none => rw [hj] at e; cases e
    | some i =>
      rw [hj] at e
      simp only [Option.map_some, Option.some.injEq] at e
      split at e
      · rename_i cur xs0 hc
        simp only [Option.some.injEq] at e
        have hi : vm.getD j 0 = i := by simp [List.getD_eq_getElem?_getD, hj]
        obtain ⟨sz0, xs0⟩ := xs0
        simp only [Prod.mk.injEq] at e
        obtain ⟨rfl, rfl, rfl⟩ := e
        obtain ⟨q0, q1, q2⟩ := h.vc i cur sz0 xs0 hc
        simp only [Gh.norm, hi]
        refine ⟨q0, q1, ?_⟩
        rcases q2 with q2 | ⟨b, o, vs, T, g1, g2, g3⟩
        · exact .inl q2
        · refine .inr ⟨b, o, vs, T, g1, ?_, g3⟩
          simp only [g2, nodup_pos hvm hj]
      · cases e
  · intro j e he
    simp only [St.norm, List.getElem?_map] at he
    cases hj : tm[j]? with
    | none => rw [hj] at he; cases he
    | some i =>
      have hi : tm.getD j 0 = i := by simp [List.getD_eq_getElem?_getD, hj]
      rw [hj] at he
      simp only [Option.map_some, Option.some.injEq] at he
      subst he
      have hil := htl i (List.mem_of_getElem? hj)
      obtain ⟨q0, q2⟩ := h.tp i (s.tp[i]) (List.getElem?_eq_getElem hil)
      simp only [Gh.norm, hi]
      refine ⟨⟨by rw [q0.1]; simp [List.getD_eq_getElem?_getD, List.getElem?_eq_getElem hil], q0.2⟩, ?_⟩
      rcases q2 with q2 | ⟨b, o, vs, T, g1, g2, g3⟩
      · exact .inl q2
      · refine .inr ⟨b, o, vs, T, g1, ?_, g3⟩
        simp only [g2, nodup_pos htm hj]
  · refine ⟨h.rt.1, fun i hi => ?_⟩
    have hi' : i < s.nr := hi
    obtain ⟨g1, g2⟩ := h.rt.2 i hi'
    exact ⟨by simp [St.norm]; exact Nat.lt_min.2 ⟨Nat.lt_of_lt_of_le hi' hnr, g1⟩, g2⟩
  · intro i hi
    have hi' : i < s.nv := hi
    have hv := hnv i hi'
    have hil : i < vm.length := (List.getElem?_eq_some_iff.1 hv).1
    refine ⟨by simpa [St.norm] using hil, fun xs e => ?_⟩
    have hg : vm.getD i 0 = i := by simp [List.getD_eq_getElem?_getD, hv]
    simp only [St.norm, List.getElem?_map, hv, Option.map_some, Option.some.injEq] at e
    split at e
    · rename_i cur xs0 hc
      have hb : Nat.blt i s.nv = true := by simpa [Nat.blt_eq] using hi'
      simp only [Option.some.injEq, Prod.mk.injEq, vver, hb, cond_true] at e
      obtain ⟨rfl, rfl⟩ := e
      simp only [Gh.norm, hg]
      exact (h.rv i hi').2 _ hc
    · cases e

theorem vmOf_get (nv : Nat) (l : List Nat) (i : Nat) (h : i < nv) : (vmOf nv l)[i]? = some i := by
  unfold vmOf
  rw [List.getElem?_append_left (by simpa using h)]
  simp [h]

theorem keepT_length (s : St) (nb : Nat) (tm vm keep : List Nat) (l : List AV) (i : Nat) : (keepT s nb tm vm keep l i).length = l.length := by
  induction l generalizing i with
  | nil => rfl
  | cons a l ih => simp [keepT, ih]
theorem keepT_get (s : St) (nb : Nat) (tm vm keep : List Nat) (l : List AV) (i k : Nat) (b : AV) (h : (keepT s nb tm vm keep l i)[k]? = some b) : ∃ a, l[k]? = some a ∧ (b = a.norm s nb tm vm ∨ b = .any) := by
  induction l generalizing i k with
  | nil => simp [keepT] at h
  | cons a l ih =>
    cases k with
    | zero =>
      simp only [keepT, List.getElem?_cons_zero, Option.some.injEq] at h
      refine ⟨a, rfl, ?_⟩
      subst h
      cases keep.any (fun j => Nat.beq j i)
      · exact .inr rfl
      · exact .inl rfl
    | succ k => simp only [keepT, List.getElem?_cons_succ] at h ⊢; exact ih (i + 1) k h

theorem tipsAt_lt (x : AS) (l : List Place) : ∀ i, i ∈ x.tipsAt l → i < x.s.tp.length := by
  induction l with
  | nil => intro i hi; cases hi
  | cons p l ih =>
    intro i hi
    simp only [AS.tipsAt] at hi
    split at hi
    · rename_i j _ _ _
      cases hb : Nat.blt j x.s.tp.length with
      | false => rw [hb] at hi; exact ih i hi
      | true =>
        rw [hb] at hi
        simp only [cond_true, List.mem_cons] at hi
        rcases hi with rfl | hi
        · exact blt_lt hb
        · exact ih i hi
    · exact ih i hi

theorem R.adoptAll (l : List (Place × Nat)) : ∀ {G : Gh} {x : AS}, R F w0 M0 G x a w → ∃ G', R F w0 M0 G' (l.foldl AS.adopt x) a w := by
  induction l with
  | nil => intro G x h; exact ⟨G, h⟩
  | cons p l ih =>
    intro G x h
    obtain ⟨G', h'⟩ := h.adopt p
    exact ih h'

theorem R.head (h : R F w0 M0 G x a w) {hd : Head} {y : AS} (hy : x.head hd = some y) : ∃ G', R F w0 M0 G' y a w := by
  obtain ⟨G1, h1⟩ := h.adoptAll hd.tips
  unfold AS.head AS.numbered at hy
  cases hc : nodup ((List.foldl AS.adopt x hd.tips).tipsAt (hd.tips.map (·.1))) && nodup (vmOf (List.foldl AS.adopt x hd.tips).s.nv ((List.foldl AS.adopt x hd.tips).vecsAt hd.vecs)) with
  | false => rw [hc] at hy; cases hy
  | true =>
    rw [hc] at hy
    simp only [cond_true, Option.some.injEq] at hy
    subst hy
    simp only [Bool.and_eq_true] at hc
    refine ⟨_, h1.S.norm _ _ _ hc.1 hc.2 (tipsAt_lt _ _) (Nat.le_max_right _ _) (vmOf_get _ _), ⟨by rw [h1.T.1]; exact (keepT_length ..).symm, fun i b v g1 g2 => ?_⟩, h1.D⟩
    obtain ⟨a', ha, hb⟩ := keepT_get _ _ _ _ _ _ _ _ _ g1
    rcases hb with rfl | rfl
    · exact (h1.T.2 i a' v ha g2).norm _ _ _
    · trivial
end
end Go.AL

/- The abstract machine: what each operation, region, loop and call comes to. A function of Lean that computes. -/
set_option linter.unusedVariables false
namespace Go.AL
open Go.RowKit

/-- What is handed over, or back: a value; a slice that may be appended to; a vector, a box (by reference). -/
inductive Arg where
  | pv (p : PV)
  | bld (sz : Nat) (xs : List PV)
  | vec (sz : Nat) (xs : List PV)
  | box (cs : List PV)
  | map (es : List (PV × PV))
  | own (sz : Nat) (xs : List PV)
  | tup (sz : Nat) (xs ps : List PV)
  deriving Inhabited

/-- What a box, a map, a vector of the caller's holds now. -/
inductive Ref where
  | box (cs : List PV)
  | map (es : List (PV × PV))
  | vec (xs : List PV)
  deriving Inhabited

/-- A result, and what the boxes, then the vectors among the arguments hold now. -/
abbrev Out := Arg × List Ref

def retPV : Out → Option PV
  | (.pv p, []) => some p
  | (.bld _ xs, []) => some (.lst xs)
  | _ => none
def retB (k : Nat) : Out → Option (List PV)
  | (.bld sz xs, []) => bif Nat.beq sz k then some xs else none
  | (.vec sz xs, []) => bif Nat.beq sz k then some xs else none
  | _ => none
def retB0 (k : Nat) : Out → Option (List PV)
  | (.bld sz xs, []) => bif Nat.beq sz k then some xs else none
  | _ => none
/-- Several results, of which the first is a vector of one's own. -/
def retT : Out → Option (Nat × List PV × List PV)
  | (.tup sz xs ps, []) => some (sz, xs, ps)
  | _ => none
def retV (k : Nat) : Out → Option (List PV)
  | (.vec sz xs, []) => bif Nat.beq sz k then some xs else none
  | _ => none

structure Env where
  call : FuncId → List Arg → Option Out
  heads : FuncId → Nat → Option Head
  kind : FuncId → Tmp → Nat
  mode : FuncId → Nat → Nat
  keepNil : FuncId → Bool
  retVec : FuncId → Bool
  cuts : FuncId → List (List Nat × Head)
  lend : FuncId → Tmp → Bool
  moved : FuncId → Bool

/-- A call of a function value with plain arguments, and a plain result. -/
def Env.callP (E : Env) (g : PV) (ps : List PV) : Option PV :=
  match g with
  | .fn f cap => (E.call f ((ps ++ cap).map .pv)).bind retPV
  | _ => none

section
variable (P : Program) (E : Env) (f : FuncId)

def ofCell : Value → Option PV
  | .int k n => some (.int k n)
  | .bool b => some (.bool b)
  | .string s => some (.str s.data.toList)
  | .slice none 0 0 => some .nils
  | .nilIface => some .nilI
  | .nilFunc => some .nilf
  | .pointer none => some .nilp
  | _ => none
def ofCells : List Value → Option (List PV)
  | [] => some []
  | v :: l => match ofCell v, ofCells l with
    | some p, some ps => some (p :: ps)
    | _, _ => none
def hdWeak : List PV → List PV
  | .nils :: l => .lst [] :: l
  | l => l
def PV.weak : PV → PV
  | .nils => .lst []
  | .nn xs => .lst xs
  | .agg cs => .agg (hdWeak cs)
  | p => p
def ofConst : Value → Option PV
  | .agg cs => match ofCells cs.toList with | some ps => some (.agg (ps.map PV.weak)) | none => none
  | v => ofCell v

def aval (x : AS) : Operand → Option AV
  | .tmp t => x.t[t]?
  | .const v => match ofConst v with | some p => some (.pv p) | none => none
  | .func g => some (.pv (.fn g []))
  | .global _ => none

def AV.toPV : AV → Option PV
  | .pv p => some p.weak
  | .bld _ _ xs => some (.lst xs)
  | _ => none
def AV.list : AV → Option (List PV)
  | .pv (.lst xs) => some xs
  | .pv .nils => some []
  | .pv (.nn xs) => some xs
  | .bld _ _ xs => some xs
  | _ => none
def toPVs : List AV → Option (List PV)
  | [] => some []
  | a :: l => match a.toPV, toPVs l with
    | some p, some ps => some (p :: ps)
    | _, _ => none
def avals (x : AS) : List Operand → Option (List AV)
  | [] => some []
  | a :: l => match aval x a, avals x l with
    | some p, some ps => some (p :: ps)
    | _, _ => none
def AV.cellsAV : AV → Option (List AV)
  | .pv (.agg cs) => some (cs.map .pv)
  | .pv (.tup _) => none
  | .pv p => some [.pv p]
  | .agg cs => some cs
  | .undef => none
  | .any => none
  | .tupV .. => none
  | x => some [x]
def PV.cl (x : PV) (o : Nat) : PV := match x with | .agg cs => cs.getD o .nilp | p => p
def PV.setc (x : PV) (o : Nat) (p : PV) : PV := match x with | .agg cs => .agg (cs.set o p) | _ => p

def Sh.cells : Sh → PV → List PV
  | .agg l, x => Sh.viewA l x 0
  | s, x => [s.view x]
def Sh.isAgg : Sh → Option Nat
  | .agg l => some l.length
  | _ => none
def sizeT (t : TypeId) : Nat := match P.types[t]? with | some i => i.size | none => 0
def bytesT (t : TypeId) : Nat := match P.types[t]? with | some i => i.bytes | none => 0
def zeroCells (t : TypeId) : Option (List PV) :=
  match P.types[t]? with
  | some i => match i.zero with | some z => ofCells z.cells.toList | none => none
  | none => none
def zeroPV (t : TypeId) : Option PV :=
  match P.types[t]? with
  | some i => match i.zero with | some z => ofConst z | none => none
  | none => none
def arrT (t : TypeId) : Option (Nat × TypeId) := match P.underlying t with | some (.array n e) => bif Nat.blt 0 (sizeT P e) && Nat.blt 1 n then some (n, e) else none | _ => none
def PV.isNils : PV → Bool | .nils => true | _ => false
/-- A call of a function that hands back nil, or a list. -/
def Sh.isLst : Sh → Bool | .lst => true | _ => false
def nilRes (g : Operand) (sh : Sh) (r : PV) : Bool := match g with | .func f => E.keepNil f && (sh.isLst && r.isNils) | _ => false
/-- A struct whose first part is nil, and is to stay known as nil. -/
def Sh.fitsNil : Sh → PV → Bool
  | .agg (.lst :: l), .agg (.nils :: cs) => Sh.fitsL l cs true
  | _, _ => false
def Sh.viewNil : Sh → PV → PV
  | .agg (_ :: l), x => .agg (.nils :: Sh.viewA l x 1)
  | _, x => x
def nilAgg (g : Operand) (sh : Sh) (r : PV) : Bool := match g with | .func f => E.keepNil f && sh.fitsNil r | _ => false
def elemT (t : TypeId) : Option TypeId := match P.underlying t with | some (.slice e) => some e | _ => none

variable {ρ : Type}

/-! ### Values that are compared as a whole; maps -/
/-- Kinds of parts that are compared: numbers, bools, strings. -/
inductive BK where
  | int
  | bool
  | str
  deriving Inhabited
/-- Kinds of keys. -/
inductive KT where
  | one (b : BK)
  | agg (l : List BK)
  deriving Inhabited
def bkT (t : TypeId) : Option BK :=
  match P.types[t]? with
  | some i => bif Nat.beq i.size 1 then (match P.underlying t with | some (.int _) => some .int | some .bool => some .bool | some .string => some .str | _ => none) else none
  | none => none
def bkFs : List Field → Nat → Option (List BK)
  | [], _ => some []
  | f :: l, i => bif !(f.name == "_") && Nat.beq f.offset i then (match bkT P f.type, bkFs l (i + 1) with | some b, some bs => some (b :: bs) | _, _ => none) else none
/-- A struct, or an array, of numbers, bools and strings. -/
def aggT (t : TypeId) : Option (List BK) :=
  match P.underlying t with
  | some (.struct fs) => bif P.stoodInHeld t then none else bkFs P fs.toList 0
  | some (.array n e) => match bkT P e with | some b => some (List.replicate n b) | none => none
  | _ => none
def eqCells : List BK → List PV → List PV → Option Bool
  | [], [], [] => some true
  | .int :: l, .int k x :: cs, .int k' y :: ds => bif decide (k = k') then (match eqCells l cs ds with | some b => some (x == y && b) | none => none) else none
  | .bool :: l, .bool x :: cs, .bool y :: ds => match eqCells l cs ds with | some b => some (x == y && b) | none => none
  | .str :: l, .str x :: cs, .str y :: ds => match eqCells l cs ds with | some b => some (x == y && b) | none => none
  | _, _, _ => none
def eqOp (op : BinOp) (b : Bool) : Option Bool := match op with | .eql => some b | .neq => some (!b) | _ => none
def keyEq : KT → PV → PV → Option Bool
  | .agg l, .agg cs, .agg ds => eqCells l cs ds
  | .one .int, .int k x, .int k' y => bif decide (k = k') then some (x == y) else none
  | .one .str, .str x, .str y => some (x == y)
  | _, _, _ => none
/-- How a map's keys are compared, and the type of what lies in it. -/
def mapT (t : TypeId) : Option (KT × TypeId) :=
  match P.underlying t with
  | some (.map k e) => match aggT P k with
    | some l => some (.agg l, e)
    | none => match bkT P k with | some b => some (.one b, e) | none => none
  | _ => none
def mget (n : KT) : List (PV × PV) → PV → Option (Option PV)
  | [], _ => some none
  | e :: es, k => match keyEq n k e.1 with
    | some b => bif b then some (some e.2) else mget n es k
    | none => none
def mset (n : KT) : List (PV × PV) → PV → PV → Option (List (PV × PV))
  | [], k, v => some [(k, v)]
  | e :: es, k, v => match keyEq n k e.1 with
    | some b => bif b then some ((k, v) :: es) else (match mset n es k v with | some l => some (e :: l) | none => none)
    | none => none
/-- Is it laid out as a key? -/
def keyOk : KT → PV → Bool
  | .one _, p => p.one
  | .agg l, .agg cs => Nat.beq cs.length l.length
  | _, _ => false

def binI (op : BinOp) (k : IntKind) (x y : Int) (K : PV → Option ρ) : Option ρ :=
  match op with
  | .add => K (.int k (k.wrap (x + y)))
  | .sub => K (.int k (k.wrap (x - y)))
  | .mul => K (.int k (k.wrap (x * y)))
  | .quo => bif decide (y = 0) then none else K (.int k (k.wrap (x.tdiv y)))
  | .rem => bif decide (y = 0) then none else K (.int k (x.tmod y))
  | .and => K (.int k (k.wrap (BitVec.ofInt k.bits x &&& BitVec.ofInt k.bits y).toNat))
  | .or => K (.int k (k.wrap (BitVec.ofInt k.bits x ||| BitVec.ofInt k.bits y).toNat))
  | .xor => K (.int k (k.wrap (BitVec.ofInt k.bits x ^^^ BitVec.ofInt k.bits y).toNat))
  | .andNot => K (.int k (k.wrap (BitVec.ofInt k.bits x &&& ~~~ BitVec.ofInt k.bits y).toNat))
  | .eql => K (.bool (x == y))
  | .neq => K (.bool (x != y))
  | .lss => K (.bool (decide (x < y)))
  | .leq => K (.bool (decide (x ≤ y)))
  | .gtr => K (.bool (decide (x > y)))
  | .geq => K (.bool (decide (x ≥ y)))
  | _ => none
def binS (op : BinOp) (x y : List UInt8) (K : PV → Option ρ) : Option ρ :=
  match op with
  | .add => bif decide (x.length + y.length ≤ 2147483648) then K (.str (x ++ y)) else none
  | .eql => K (.bool (x == y))
  | .neq => K (.bool (!(x == y)))
  | .lss => K (.bool (Op.bytesLess x y))
  | .leq => K (.bool (Op.bytesLess x y || x == y))
  | .gtr => K (.bool (!(Op.bytesLess x y || x == y)))
  | .geq => K (.bool (!Op.bytesLess x y))
  | _ => none
/-- Is a slice known not to be nil? -/
def some? (xs : List PV) : Option Bool := match xs with | [] => none | _ :: _ => some true
def isSl (d : Option TypeDesc) : Bool := match d with | some (.slice _) => true | _ => false
def isBo (d : Option TypeDesc) : Bool := match d with | some .bool => true | _ => false
def isFn (d : Option TypeDesc) : Bool := match d with | some (.func ..) => true | _ => false
def binPV (d : Option TypeDesc) (op : BinOp) (a b : PV) (K : PV → Option ρ) : Option ρ :=
  match op, a, b with
  | .shl, .int k x, .int _ y => bif decide (0 ≤ y) then K (.int k (k.wrap (x * 2 ^ (min y.toNat k.bits)))) else none
  | .shr, .int k x, .int _ y => bif decide (0 ≤ y) then K (.int k (x.fdiv (2 ^ (min y.toNat k.bits)))) else none
  | _, .int k x, .int k' y => bif decide (k = k') then binI op k x y K else none
  | _, .str x, .str y => binS op x y K
  | .eql, .bool x, .bool y => bif isBo d then K (.bool (x == y)) else none
  | .neq, .bool x, .bool y => bif isBo d then K (.bool (!(x == y))) else none
  | .eql, .nils, .nils => bif isSl d then K (.bool true) else none
  | .neq, .nils, .nils => bif isSl d then K (.bool false) else none
  | .eql, .lst xs, .nils => bif isSl d then (some? xs).bind fun _ => K (.bool false) else none
  | .neq, .lst xs, .nils => bif isSl d then (some? xs).bind fun _ => K (.bool true) else none
  | .eql, .nn _, .nils => bif isSl d then K (.bool false) else none
  | .neq, .nn _, .nils => bif isSl d then K (.bool true) else none
  | _, _, _ => none
def unPV (op : UnOp) (a : PV) (K : PV → Option ρ) : Option ρ :=
  match op, a with
  | .not, .bool b => K (.bool (!b))
  | .neg, .int k n => K (.int k (k.wrap (0 - n)))
  | _, _ => none
def isByte : PV → Bool
  | .int .u8 _ => true
  | _ => false
def toByte (p : PV) : UInt8 := UInt8.ofNat p.toInt.toNat
def isStr (d : Option TypeDesc) : Bool := match d with | some .string => true | _ => false
def isU8 (d : Option TypeDesc) : Bool := match d with | some (.int .u8) => true | _ => false
def convPV (src dst : TypeId) (a : PV) (K : PV → Option ρ) : Option ρ :=
  match P.underlying src, P.underlying dst, a with
  | some _, some (.int k), .int _ n => K (.int k (k.wrap n))
  | some .string, some .string, .str s => K (.str s)
  | some (.slice e), some .string, .lst xs => bif isU8 (P.underlying e) then bif xs.all isByte then K (.str (xs.map toByte)) else none else none
  | some .string, some (.slice e), .str s => bif isU8 (P.underlying e) && Nat.beq (sizeT P e) 1 then bif decide (s.length ≤ 2147483648) then K (.lst (s.map fun c => .int .u8 c.toNat)) else none else none
  | _, _, _ => none

def setAt {α : Type} (cs : List α) (off : Nat) : List α → List α
  | [] => cs
  | v :: l => setAt (cs.set off v) (off + 1) l
/-- parts laid over cells, as the machine's 'fill' does it -/
def fillP (place : Nat → Option (Nat × Nat)) (cells : List PV) : List (Nat × PV) → Option (List PV)
  | [] => some cells
  | (i, v) :: rest => match place i with
    | none => none
    | some (off, size) => bif Nat.beq v.cells.length size && Nat.ble (off + v.cells.length) cells.length then fillP place (setAt cells off v.cells) rest else none
def partsPV (av : Operand → Option AV) : List (Nat × Operand) → Option (List (Nat × PV))
  | [] => some []
  | (i, o) :: l => match av o, partsPV av l with
    | some a, some ps => match a.toPV with | some (.tup _) => none | some p => some ((i, p) :: ps) | none => none
    | _, _ => none
def placesL : List Field → Option (List (Nat × Nat))
  | [] => some []
  | f :: l => match P.types[f.type]?, placesL l with
    | some i, some ps => some ((f.offset, i.size) :: ps)
    | _, _ => none
def fieldPlaces (t : TypeId) : Option (List (Nat × Nat)) :=
  match P.underlying t with
  | some (.struct fs) => placesL P fs.toList
  | _ => none
def placesF (t : TypeId) : Option (Nat → Option (Nat × Nat)) :=
  match P.underlying t with
  | some (.array _ e) => match P.types[e]? with
    | some i => some fun k => some (k * i.size, i.size)
    | none => none
  | _ => match fieldPlaces P t with
    | some pl => some fun i => pl[i]?
    | none => none
/-- elements by whole parts -/
def fillE (sz : Nat) (xs : List PV) : List (Nat × PV) → Option (List PV)
  | [] => some xs
  | (i, p) :: rest => bif Nat.beq p.cells.length sz && Nat.blt i xs.length then fillE sz (xs.set i p) rest else none

def headOk (sz : Nat) (xs : List PV) : Bool := match xs with | [] => true | x :: _ => Nat.beq x.cells.length sz
def sliceL (xs : List PV) (lo hi : Option Int) (K : List PV → Option ρ) : Option ρ :=
  match lo, hi with
  | none, none => K xs
  | some l, none => bif decide (0 ≤ l) && decide (l ≤ xs.length) then K (xs.drop l.toNat) else none
  | none, some h => bif decide (0 ≤ h) && decide (h ≤ xs.length) then K (xs.take h.toNat) else none
  | some l, some h => bif decide (0 ≤ l) && decide (l ≤ h) && decide (h ≤ xs.length) then K ((xs.take h.toNat).drop l.toNat) else none
def sliceS (xs : List UInt8) (lo hi : Option Int) (K : List UInt8 → Option ρ) : Option ρ :=
  match lo, hi with
  | none, none => K xs
  | some l, none => bif decide (0 ≤ l) && decide (l ≤ xs.length) then K (xs.drop l.toNat) else none
  | none, some h => bif decide (0 ≤ h) && decide (h ≤ xs.length) then K (xs.take h.toNat) else none
  | some l, some h => bif decide (0 ≤ l) && decide (l ≤ h) && decide (h ≤ xs.length) then K ((xs.take h.toNat).drop l.toNat) else none
def bound (av : Operand → Option AV) : Option Operand → Option (Option Int)
  | none => some none
  | some o => match av o with | some (.pv (.int .i64 n)) => some (some n) | _ => none

/-- Operations that depend on their operands alone. -/
def effP (av : Operand → Option AV) (op : Op) (ty : TypeId) (dst : Option Tmp) (K : AV → Option ρ) : Option ρ :=
  match op with
  | .move a | .assign a => match av a with | some v => K v | none => none
  | .pick c a b => match av c with
    | some (.pv (.bool c)) => bif c then (match av a with | some v => K v | none => none) else (match av b with | some v => K v | none => none)
    | _ => none
  | .build t parts => match placesF P t, zeroCells P t, partsPV av parts.toList with
    | some pl, some z, some ps => match fillP pl (z.map PV.weak) ps with | some cs => K (.pv (.agg cs)) | none => none
    | _, _, _ => none
  | .buildSlice t n parts => match elemT P t with
    | some e => match zeroPV P e, partsPV av parts.toList with
      | some z, some ps => bif Nat.ble (n * sizeT P e) 65536 && Nat.blt 0 (sizeT P e) then (match fillE (sizeT P e) (List.replicate n z) ps with | some xs => K (.pv (.lst xs)) | none => none) else none
      | _, _ => none
    | none => none
  | .nilCheck a => match av a with
    | some (.box i off) => K (.box i off)
    | some (.pv (.ptr cs)) => K (.pv (.ptr cs))
    | some (.pv (.fn g cap)) => K (.pv (.fn g cap))
    | _ => none
  | .binOp op t a b _ => match av a, av b with
    | some (.pv (.agg cs)), some (.pv (.agg ds)) => match aggT P t with
      | some l => (eqCells l cs ds).bind fun b => (eqOp op b).bind fun b => K (.pv (.bool b))
      | none => none
    | some (.pv a), some (.pv b) => binPV (P.underlying t) op a b fun p => K (.pv p)
    | some (.bld _ _ xs), some (.pv b) => binPV (P.underlying t) op (.lst xs) b fun p => K (.pv p)
    | _, _ => none
  | .unOp op _ a => match av a with | some (.pv a) => unPV op a fun p => K (.pv p) | _ => none
  | .convert s d a => match av a with
    | some (.pv a) => convPV P s d a.weak fun p => K (.pv p)
    | some (.bld _ _ xs) => convPV P s d (.lst xs) fun p => K (.pv p)
    | _ => none
  | .fieldAddr s a i => match P.underlying s with
    | some (.struct fs) => match fs[i]? with
      | some fd => bif Nat.beq (sizeT P fd.type) 0 then none else match av a with
        | some (.pv (.ptr cs)) => K (.pv (.ptr (cs.drop fd.offset)))
        | some (.box i off) => K (.box i (off + fd.offset))
        | some (.elt i v j k) => K (.elt i v j (k + fd.offset))
        | _ => none
      | none => none
    | _ => none
  | .field s a i => match P.underlying s with
    | some (.struct fs) => match fs[i]?, av a with
      | some fd, some (.pv (.agg cs)) => match zeroPV P fd.type with
        | none => none
        | some _ => match (shOf P fd.type).isAgg with
          | some n => bif Nat.ble (fd.offset + n) cs.length then K (.pv (.agg ((cs.drop fd.offset).take n))) else none
          | none => match cs[fd.offset]? with | some c => K (.pv c) | none => none
      | _, _ => none
    | _ => none
  | .indexAddr t a i => match arrT P t with
    | some (n, e) => match av a, av i with
      | some (.box b off), some (.pv (.int .i64 i)) => bif decide (0 ≤ i) && decide (i < n) then K (.box b (off + i.toNat * sizeT P e)) else none
      | some (.pv (.ptr cs)), some (.pv (.int .i64 i)) => bif decide (0 ≤ i) && decide (i < n) then K (.pv (.ptr (cs.drop (i.toNat * sizeT P e)))) else none
      | _, _ => none
    | none => match elemT P t, av a, av i with
    | some e, some a, some (.pv (.int .i64 i)) => match a.list, zeroPV P e with
      | some xs, some _ => bif decide (0 ≤ i) then (xs[i.toNat]?).bind fun x => bif (shOf P e).fits x then K (.pv (.ptr ((shOf P e).cells x))) else none else none
      | _, _ => none
    | _, _, _ => none
  | .index t a i => match P.underlying t, av a, av i with
    | some (.array n e), some (.pv (.agg cs)), some (.pv (.int .i64 i)) => bif (bkT P e).isSome && decide (0 ≤ i) && decide (i < n) then (match cs[i.toNat]? with | some c => K (.pv c) | none => none) else none
    | some .string, some (.pv (.str s)), some (.pv (.int .i64 i)) => bif decide (0 ≤ i) then (s[i.toNat]?).bind fun c => K (.pv (.int .u8 c.toNat)) else none
    | _, _, _ => none
  | .extract a i => match av a with
    | some (.pv (.tup cs)) => match cs[i]? with | some c => K (.pv c) | none => none
    | some (.tupV j ver ps) => match i with
      | 0 => K (.vec j ver)
      | i + 1 => match ps[i]? with | some c => K (.pv c) | none => none
    | _ => none
  | .slice t a lo hi mx => match mx with
    | some _ => none
    | none => match P.underlying t with
      | some .string => match av a, bound av lo, bound av hi with
        | some (.pv (.str s)), some lo, some hi => sliceS s lo hi fun s => K (.pv (.str s))
        | _, _, _ => none
      | some (.slice e) => match zeroPV P e with
        | none => none
        | some _ => match av a, bound av lo, bound av hi with
          | some (.bld i v xs), some lo, some none => bif headOk (sizeT P e) xs then sliceL xs lo none fun xs => K (.bld i v xs) else none
          | some b, some lo, some hi => match b.list with | some xs => bif headOk (sizeT P e) xs then sliceL xs lo hi fun xs => K (.pv (.lst xs)) else none | none => none
          | _, _, _ => none
      | _ => none
  | .makeFunc (.func g) first caps => bif first.isEmpty then (match caps.toList.mapM av with
      | some l => match toPVs l with | some ps => K (.pv (.fn g ps)) | none => none
      | none => none) else none
  | .call c => match c.callee with
    | .builtin .len => match c.args.toList, c.argTypes.toList with
      | [a], [t] => match P.underlying t, av a with
        | some .string, some (.pv (.str s)) => K (.pv (.int .i64 s.length))
        | some (.slice _), some v => match v.list with | some xs => K (.pv (.int .i64 xs.length)) | none => none
        | _, _ => none
      | _, _ => none
    | .builtin .max => match c.args.toList.mapM av with
      | some [.pv (.int k x), .pv (.int k' y)] => bif decide (k = k') then K (.pv (.int k (bif decide (y > x) then y else x))) else none
      | some [.pv (.int k x), .pv (.int k' y), .pv (.int k'' z)] => bif decide (k = k') && decide (k = k'') then K (.pv (.int k (bif decide (z > (bif decide (y > x) then y else x)) then z else (bif decide (y > x) then y else x)))) else none
      | _ => none
    | .builtin .min => match c.args.toList.mapM av with
      | some [.pv (.int k x), .pv (.int k' y)] => bif decide (k = k') then K (.pv (.int k (bif decide (y < x) then y else x))) else none
      | _ => none
    | .builtin _ => none
    | .invoke .. => none
    | .value gop => match av gop, c.args.toList.mapM av with
      | some (.pv g), some l => match toPVs l with
        | some ps => (E.callP g ps).bind fun r => bif nilRes E gop (shRes P ty) r then K (.pv .nils) else bif nilAgg E gop (shRes P ty) r then K (.pv ((shRes P ty).viewNil r)) else bif (shRes P ty).fits r then K (.pv ((shRes P ty).view r)) else none
        | none => none
      | _, _ => none
  | _ => none

/-! ### Operations on the store -/
def loadAV (t : TypeId) (a : AV) (s : St) (K : AV → Option ρ) : Option ρ :=
  match zeroPV P t with
  | none => none
  | some _ => match a with
    | .pv (.ptr cs) => match (shOf P t).isAgg with
      | some n => bif Nat.ble n cs.length then K (.pv (.agg (cs.take n))) else none
      | none => match cs with | c :: _ => K (.pv c) | [] => none
    | .box i off => match s.bx[i]? with
      | some (_, cs) => match (shOf P t).isAgg with
        | some n => bif Nat.ble (off + n) cs.length && isCells cs then (match toPVs ((cs.drop off).take n) with | some ps => K (.pv (.agg ps)) | none => none) else none
        | none => match cs[off]? with | some c => bif c.cell then K c else none | none => none
      | none => none
    | .elt i ver j o => match s.vc[i]? with
      | some (some (cur, _, xs)) => bif Nat.beq cur ver then (xs[j]?).bind fun x => match (shOf P t).isAgg with
        | some _ => bif Nat.beq o 0 && (shOf P t).fits x then K (.pv ((shOf P t).view x)) else none
        | none => bif Nat.blt o x.cells.length && (shOf P t).fits (x.cl o) then K (.pv ((shOf P t).view (x.cl o))) else none
        else none
      | _ => none
    | _ => none

def storeAV (t : TypeId) (a v : AV) (s : St) (K : St → Option ρ) : Option ρ :=
  match zeroPV P t with
  | none => none
  | some _ => match a with
    | .box i off => match s.bx[i]?, v.cellsAV with
      | some (z, cs), some vs => bif !z && Nat.beq vs.length (sizeT P t) && Nat.ble (off + vs.length) cs.length && vs.all AV.cell && isCells cs then K { s with bx := s.bx.set i (false, setAt cs off vs) } else none
      | _, _ => none
    | .elt i ver j o => match s.vc[i]?, v with
      | some (some (cur, sz, xs)), .pv p => bif Nat.beq cur ver then (xs[j]?).bind fun x => match (shOf P t).isAgg with
        | some _ => bif Nat.beq o 0 && (shOf P t).fits x && (shOf P t).fits p then K { s with vc := s.vc.set i (some (cur, sz, xs.set j p)) } else none
        | none => bif Nat.blt o x.cells.length && p.one then K { s with vc := s.vc.set i (some (cur, sz, xs.set j (x.setc o p))) } else none
        else none
      | _, _ => none
    | _ => none

def small (n m bytes : Nat) : Bool := decide ((n + m) * bytes ≤ 141000000000000)


def appendAV (t : TypeId) (a b : AV) (s : St) (K : AV → St → Option ρ) : Option ρ :=
  match elemT P t with
  | none => none
  | some e => match b.list, a, zeroPV P e with
    | some ys, .bld i v xs, some _ => match s.tp[i]? with
      | some (cur, sz) => bif Nat.beq cur v && Nat.beq sz (sizeT P e) && Nat.ble (bytesT P e) 65536 && Nat.blt 0 (bytesT P e) then bif headOk sz ys then bif small xs.length ys.length (bytesT P e) then K (.bld i (v + 1) (xs ++ ys)) { s with tp := s.tp.set i (v + 1, sz) } else none else none else none
      | none => none
    | some ys, .pv .nils, some _ => bif Nat.ble (bytesT P e) 65536 && Nat.blt 0 (sizeT P e) && Nat.blt 0 (bytesT P e) then bif headOk (sizeT P e) ys then bif small 0 ys.length (bytesT P e) then K (.bld s.tp.length 0 ys) { s with tp := s.tp ++ [(0, sizeT P e)] } else none else none else none
    | _, _, _ => none

def appendNilV (t : TypeId) (b : AV) (s : St) (K : AV → St → Option ρ) : Option ρ :=
  match elemT P t with
  | none => none
  | some e => match b.list, zeroPV P e with
    | some ys, some _ => bif Nat.ble (bytesT P e) 65536 && Nat.blt 0 (sizeT P e) && Nat.blt 0 (bytesT P e) then bif headOk (sizeT P e) ys then bif small 0 ys.length (bytesT P e) then K (.vec s.vc.length 0) { s with vc := s.vc ++ [some (0, sizeT P e, ys)] } else none else none else none
    | _, _ => none
def kindIs (dst : Option Tmp) (k : Nat) : Bool := match dst with | some d => Nat.beq (E.kind f d) k | none => false

/-- How an argument is handed over: as a value, or as a slice that may be appended to. -/
def pass (mode : Nat) (v : AV) (s : St) : Option (Arg × List Nat × St) :=
  match mode, v with
  | 0, .vec i ver => match s.vc[i]? with
    | some (some (cur, _, xs)) => bif Nat.beq cur ver then some (.pv (.lst xs), [], { s with vc := s.vc.set i none }) else none
    | _ => none
  | 0, .win i ver lo hi => match s.vc[i]? with
    | some (some (cur, _, xs)) => bif Nat.beq cur ver then some (.pv (.lst ((xs.take hi).drop lo)), [], { s with vc := s.vc.set i none }) else none
    | _ => none
  | 0, v => match v.toPV with | some p => some (.pv p, [], s) | none => none
  | k + 1, .pv .nils => bif Nat.blt 0 k then some (.bld k [], [], s) else none
  | k + 1, .bld i ver xs => match s.tp[i]? with
    | some (cur, sz) => bif Nat.beq cur ver && Nat.beq sz k then some (.bld sz xs, [i], s) else none
    | none => none
  | _, _ => none
/-- A parameter that takes vectors by reference takes other values as they are. -/
def plainMode (m : Nat) : Nat := bif Nat.beq m 1 then 0 else m
def passAll (g : FuncId) : Nat → List AV → St → Option (List Arg × List Nat × St)
  | _, [], s => some ([], [], s)
  | i, v :: l, s => match pass (plainMode (E.mode g i)) v s with
    | some (a, is, s1) => match passAll g (i + 1) l s1 with
      | some (as, js, s2) => some (a :: as, is ++ js, s2)
      | none => none
    | none => none
def bump1 (i : Nat) (tp : List (Nat × Nat)) : List (Nat × Nat) := match tp[i]? with | some (c, sz) => tp.set i (c + 1, sz) | none => tp
def bumpAll : List Nat → List (Nat × Nat) → List (Nat × Nat)
  | [], tp => tp
  | i :: l, tp => bumpAll l (bump1 i tp)
def St.given (s : St) (ids : List Nat) : St := { s with tp := bumpAll ids s.tp }

def pubAll : List AV → St → Option (List PV × St)
  | [], s => some ([], s)
  | v :: l, s => match pass 0 v s with
    | some (.pv p, _, s1) => match pubAll l s1 with | some (ps, s2) => some (p :: ps, s2) | none => none
    | _ => none

/-- Shapes of values that lie in no memory. -/
def Sh.flatC : Sh → Bool
  | .int _ => true
  | .bool => true
  | .str => true
  | _ => false
def Sh.flat : Sh → Bool
  | .agg l => l.all Sh.flatC
  | .tup l => l.all Sh.flatC
  | s => s.flatC
def Sh.isTup : Sh → Bool
  | .tup _ => true
  | _ => false

def lendAt (dst : Option Tmp) : Bool := match dst with | some d => E.lend f d | none => false

def aggAt (dst : Option Tmp) : Bool := match dst with | some d => Nat.beq (E.kind f d) 3 | none => false
/-- A struct that is loaded as it is, whatever its cells hold. -/
def loadAgg (t : TypeId) (a : AV) (s : St) (K : AV → Option ρ) : Option ρ :=
  match a, zeroPV P t, (shOf P t).isAgg with
  | .box i off, some _, some n => match s.bx[i]? with
    | some (_, cs) => bif Nat.ble (off + n) cs.length && ((cs.drop off).take n).all AV.cell && isCells cs then K (.agg ((cs.drop off).take n)) else none
    | none => none
  | _, _, _ => none
def partsAV (av : Operand → Option AV) : List (Nat × Operand) → Option (List (Nat × List AV))
  | [] => some []
  | (i, o) :: l => match av o, partsAV av l with
    | some a, some ps => match a.cellsAV with | some cs => bif cs.all AV.cell then some ((i, cs) :: ps) else none | none => none
    | _, _ => none
def fillA (place : Nat → Option (Nat × Nat)) (cells : List AV) : List (Nat × List AV) → Option (List AV)
  | [] => some cells
  | (i, vs) :: rest => match place i with
    | none => none
    | some (off, size) => bif Nat.beq vs.length size && Nat.ble (off + vs.length) cells.length then fillA place (setAt cells off vs) rest else none
def buildAV (av : Operand → Option AV) (t : TypeId) (parts : List (Nat × Operand)) (K : AV → Option ρ) : Option ρ :=
  match fieldPlaces P t, zeroCells P t, partsAV av parts with
  | some pl, some z, some ps => match fillA (fun i => pl[i]?) (z.map .pv) ps with | some cs => K (.agg cs) | none => none
  | _, _, _ => none
def appendVec (t : TypeId) (j ver : Nat) (b : AV) (s : St) (K : AV → St → Option ρ) : Option ρ :=
  match elemT P t with
  | none => none
  | some e => match b.list, s.vc[j]?, zeroPV P e with
    | some ys, some (some (cur, sz, xs)), some _ => bif Nat.beq cur ver && Nat.beq sz (sizeT P e) && Nat.ble (bytesT P e) 65536 && Nat.blt 0 (bytesT P e) then bif headOk sz ys then bif small xs.length ys.length (bytesT P e) then K (.vec j (ver + 1)) { s with vc := s.vc.set j (some (ver + 1, sz, xs ++ ys)) } else none else none else none
    | _, _, _ => none

def newVec (s : St) (sz : Nat) (xs : List PV) (K : AV → St → Option ρ) : Option ρ := K (.vec s.vc.length 0) { s with vc := s.vc ++ [some (0, sz, xs)] }
def newTip (s : St) (sz : Nat) (xs : List PV) (K : AV → St → Option ρ) : Option ρ := K (.bld s.tp.length 0 xs) { s with tp := s.tp ++ [(0, sz)] }

/-- A captured variable: a value, or a box that never changes from now on. -/
def capture (v : AV) (s : St) : Option (PV × St) :=
  match v with
  | .box i 0 => match s.bx[i]? with
    | some (_, cs) => match toPVs cs with
      | some ps => some (.ptr ps, { s with bx := s.bx.set i (true, cs) })
      | none => none
    | none => none
  | v => match v.toPV with | some p => some (p, s) | none => none
def captures : List AV → St → Option (List PV × St)
  | [], s => some ([], s)
  | v :: l, s => match capture v s with
    | some (p, s1) => match captures l s1 with
      | some (ps, s2) => some (p :: ps, s2)
      | none => none
    | none => none

/-- What is handed over by reference: boxes, maps, and vectors where the callee's table says so. -/
def isRef (m : Nat) : AV → Bool
  | .box .. => true
  | .mp _ => true
  | .vec .. => Nat.beq m 1
  | _ => false
def anyRef (g : FuncId) : Nat → List AV → Bool
  | _, [] => false
  | i, v :: l => isRef (E.mode g i) v || anyRef g (i + 1) l
/-- Arguments; the boxes (and of what shape they are: none, a map) and the vectors that go with them. -/
def ptrSh (ty : TypeId) : Sh := match P.underlying ty with | some (.pointer e) => shOf P e | _ => .raw
def passR (g : FuncId) : Nat → List AV → List TypeId → St → Option (List Arg × List (Nat × Option Sh) × List Nat)
  | _, [], _, s => some ([], [], [])
  | i, v :: l, tys, s => match passR g (i + 1) l tys.tail s with
    | none => none
    | some (as, bs, vs) => match v with
      | .box b 0 => match s.bx[b]? with
        | some (false, cs) => bif isCells cs then (match toPVs cs with | some ps => some (.box ps :: as, (b, some (ptrSh P (tys.headD 0))) :: bs, vs) | none => none) else none
        | _ => none
      | .mp b => match s.bx[b]? with
        | some (false, [.ment es]) => some (.map es :: as, (b, none) :: bs, vs)
        | _ => none
      | .vec j ver => match s.vc[j]? with
        | some (some (cur, sz, xs)) => bif Nat.beq cur ver && Nat.beq (E.mode g i) 1 then some (.vec sz xs :: as, bs, j :: vs) else none
        | _ => none
      | v => match v.toPV with | some p => some (.pv p :: as, bs, vs) | none => none
/-- What they hold when the call is over. -/
def backR : List Nat → List Nat → List Ref → St → Option St
  | b :: bs, vs, .box cs :: rs, s => backR bs vs rs { s with bx := s.bx.set b (false, cs.map .pv) }
  | b :: bs, vs, .map es :: rs, s => backR bs vs rs { s with bx := s.bx.set b (false, [.ment es]) }
  | [], j :: vs, .vec xs :: rs, s => match s.vc[j]? with
    | some (some (cur, sz, _)) => backR [] vs rs { s with vc := s.vc.set j (some (cur, sz, xs)) }
    | _ => none
  | [], [], [], s => some s
  | _, _, _, _ => none
def Ref.toB : Ref → PV | .box cs => .agg cs | _ => .nilp
def Ref.toM : Ref → List (PV × PV) | .map es => es | _ => []
def Ref.toV : Ref → List PV | .vec xs => xs | _ => []
/-- What the k-th box, map, vector of the caller's holds now. -/
def Out.b (o : Out) (k : Nat) : PV := (o.2.getD k (.vec [])).toB
def Out.m (o : Out) (k : Nat) : List (PV × PV) := (o.2.getD k (.vec [])).toM
def Out.v (o : Out) (k : Nat) : List PV := (o.2.getD k (.vec [])).toV
def shCells (sh : Sh) (x : PV) : List PV := match sh with | .agg l => Sh.viewA l x 0 | s => [s.view (x.c 0)]
def fitB (sh : Sh) : Ref → Bool
  | .box cs => match sh with
    | .agg l => Sh.fitsL l cs true
    | s => match cs with | [c] => s.fits c | _ => false
  | _ => false
def refFits : List (Nat × Option Sh) → List Nat → List Ref → Bool
  | (_, some sh) :: ks, js, r :: rs => fitB sh r && refFits ks js rs
  | (_, none) :: ks, js, .map _ :: rs => refFits ks js rs
  | [], _ :: js, .vec _ :: rs => refFits [] js rs
  | [], [], [] => true
  | _, _, _ => false
def backB : List (Nat × Option Sh) → Nat → Out → St → St
  | [], _, _, s => s
  | (i, some sh) :: ks, k, o, s => backB ks (k + 1) o { s with bx := s.bx.set i (false, (shCells sh (o.b k)).map .pv) }
  | (i, none) :: ks, k, o, s => backB ks (k + 1) o { s with bx := s.bx.set i (false, [.ment (o.m k)]) }
def backV : List Nat → Nat → Out → St → Option St
  | [], _, _, s => some s
  | j :: js, k, o, s => match s.vc[j]? with
    | some (some (cur, sz, _)) => backV js (k + 1) o { s with vc := s.vc.set j (some (cur, sz, o.v k)) }
    | _ => none
/-- A window of the caller's vector that comes back. -/
def retW (o : Out) : Option (Nat × Nat) := match o.1 with | .box [.int .i64 lo, .int .i64 hi] => some (lo.toNat, hi.toNat) | _ => none
/-- What such a call leaves. -/
def finR (ty : TypeId) (dst : Option Tmp) (vs : List Nat) (o : Out) (s : St) (K : AV → St → Option ρ) : Option ρ :=
  match (match dst with | some d => E.kind f d | none => 0), elemT P ty with
  | 2, some e => (retV (sizeT P e) (o.1, [])).bind fun xs => newVec s (sizeT P e) xs K
  | 1, some e => (retB0 (sizeT P e) (o.1, [])).bind fun xs => newTip s (sizeT P e) xs K
  | 4, _ => (retW o).bind fun q => match vs with
    | [j] => match s.vc[j]? with
      | some (some (cur, _, xs)) => bif Nat.ble q.1 q.2 && Nat.ble q.2 xs.length then K (.win j cur q.1 q.2) s else none
      | _ => none
    | _ => none
  | _, _ => (retPV (o.1, [])).bind fun r => bif (shRes P ty).fits r then K (.pv ((shRes P ty).view r)) s else none
def callR (g : FuncId) (l : List AV) (tys : List TypeId) (ty : TypeId) (dst : Option Tmp) (s : St) (K : AV → St → Option ρ) : Option ρ :=
  match passR P E g 0 l tys s with
  | some (as, bs, vs) => bif nodup (bs.map (·.1)) && nodup vs then
      (E.call g as).bind fun o => bif refFits bs vs o.2 then (backV vs bs.length o (backB bs 0 o s)).bind fun s => finR P E f ty dst vs o s K
        else none
      else none
  | none => none

/-- Of several results, the first of which is a list: how great its elements are, and what the others are. -/
def tupSz (ty : TypeId) : Nat := match P.underlying ty with
  | some (.tuple es) => match elemT P (es.getD 0 0) with | some e => sizeT P e | none => 0
  | _ => 0
def tupSh (ty : TypeId) : List Sh := match shRes P ty with | .tup (_ :: l) => l | _ => []
def takeT (ty : TypeId) (r : Out) (s : St) (K : AV → St → Option ρ) : Option ρ :=
  (retT r).bind fun q => bif Nat.beq q.1 (tupSz P ty) && Sh.fitsL (tupSh P ty) q.2.2 false then K (.tupV s.vc.length 0 (Sh.viewT (tupSh P ty) (.tup q.2.2) 0)) { s with vc := s.vc ++ [some (0, tupSz P ty, q.2.1)] } else none
/-- A vector of one's own that is given away. -/
def giveV (t : TypeId) (v : AV) (s : St) : Option (Nat × List PV × St) :=
  match v with
  | .vec i ver => match s.vc[i]? with
    | some (some (cur, sz, xs)) => bif Nat.beq cur ver && Nat.ble s.nv i then some (sz, xs, { s with vc := s.vc.set i none }) else none
    | _ => none
  | .pv .nils => match elemT P t with | some e => bif Nat.blt 0 (sizeT P e) then some (sizeT P e, [], s) else none | none => none
  | _ => none
/-- A call that is handed a vector to keep. -/
def callM (g : FuncId) (l : List AV) (tys : List TypeId) (ty : TypeId) (s : St) (K : AV → St → Option ρ) : Option ρ :=
  match l with
  | [] => none
  | v :: l => match giveV P (tys.headD 0) v s, toPVs l with
    | some (sz, xs, s1), some ps => (E.call g (.own sz xs :: ps.map .pv)).bind fun r => takeT P ty r s1 K
    | _, _ => none

def hasCells (s : St) (i : Nat) : Bool := match s.bx[i]? with | some (_, _ :: _) => true | _ => false
/-- The boxes among what is captured. -/
def frozen : List AV → List Nat
  | [] => []
  | .box i _ :: l => i :: frozen l
  | _ :: l => frozen l

def loN (b : Option Int) : Nat := (b.getD 0).toNat
def hiN (b : Option Int) (n : Nat) : Nat := (b.getD n).toNat
/-- What a list is when a part of it is cleared. -/
def clr (xs : List PV) (lo hi : Nat) (z : PV) : List PV := xs.take lo ++ List.replicate (hi - lo) z ++ xs.drop hi

/-- Operations that look at the store, or change it. -/
def effS (x : AS) (op : Op) (ty : TypeId) (dst : Option Tmp) (K : AV → St → Option ρ) : Option ρ :=
  match op with
  | .alloc t => match zeroCells P t with
    | some cs => K (.box x.s.bx.length 0) { x.s with bx := x.s.bx ++ [(false, cs.map .pv)] }
    | none => none
  | .box t a => match aval x a with
    | some v => match v.cellsAV with
      | some cs => bif Nat.beq cs.length (sizeT P t) && cs.all AV.cell then K (.box x.s.bx.length 0) { x.s with bx := x.s.bx ++ [(false, cs)] } else none
      | none => none
    | none => none
  | .build t parts => buildAV P (aval x) t parts.toList fun v => K v x.s
  | .makeMap _ r => match r with
    | none => K (.mp x.s.bx.length) { x.s with bx := x.s.bx ++ [(false, [.ment []])] }
    | some _ => none
  | .lookup t m k ok => match mapT P t, aval x m, aval x k with
    | some (n, e), some (.mp i), some (.pv k) => match x.s.bx[i]?, zeroPV P e with
      | some (_, [.ment es]), some z => bif keyOk n k then (mget n es k).bind fun o =>
          bif (shOf P e).fits (o.getD z.weak) then (bif ok then K (.pv (.tup [(shOf P e).view (o.getD z.weak), .bool o.isSome])) x.s else K (.pv ((shOf P e).view (o.getD z.weak))) x.s) else none
        else none
      | _, _ => none
    | _, _, _ => none
  | .mapUpdate t m k v | .insert t m k v => match mapT P t, aval x m, aval x k, aval x v with
    | some (n, _), some (.mp i), some (.pv k), some v => match x.s.bx[i]?, v.toPV with
      | some (false, [.ment es]), some (.tup _) => none
      | some (false, [.ment es]), some v => bif keyOk n k then (mset n es k v).bind fun es => K .undef { x.s with bx := x.s.bx.set i (false, [.ment es]) } else none
      | _, _ => none
    | _, _, _, _ => none
  | .load t a => match aval x a with | some a => bif aggAt E f dst then loadAgg P t a x.s fun v => K v x.s else loadAV P t a x.s fun v => K v x.s | none => none
  | .store t a v => match aval x a, aval x v with | some a, some v => storeAV P t a v x.s fun s => K .undef s | _, _ => none
  | .makeSlice t l c => match elemT P t, aval x l, aval x c with
    | some e, some (.pv (.int .i64 n)), some (.pv (.int .i64 m)) => match zeroPV P e with
      | some z => bif decide (0 ≤ n) && decide (n ≤ m) && decide (m ≤ 2147483648) && Nat.ble (bytesT P e) 65536 && Nat.blt 0 (sizeT P e) then (match dst with
        | some d => bif Nat.beq (E.kind f d) 1 then newTip x.s (sizeT P e) (List.replicate n.toNat z) K else newVec x.s (sizeT P e) (List.replicate n.toNat z) K
        | none => none) else none
      | none => none
    | _, _, _ => none
  | .buildSlice t n parts => match elemT P t with
    | some e => match zeroPV P e, partsPV (aval x) parts.toList with
      | some z, some ps => bif Nat.ble (n * sizeT P e) 65536 && Nat.blt 0 (sizeT P e) then (match fillE (sizeT P e) (List.replicate n z) ps, dst with
        | some xs, some d => bif Nat.beq (E.kind f d) 2 then newVec x.s (sizeT P e) xs K else newTip x.s (sizeT P e) xs K
        | _, _ => none) else none
      | _, _ => none
    | none => none
  | .indexAddr t a i => match elemT P t, aval x a, aval x i with
    | some e, some (.vec j ver), some (.pv (.int .i64 i)) => match x.s.vc[j]? with
      | some (some (cur, sz, xs)) => bif Nat.beq cur ver && Nat.beq sz (sizeT P e) then bif decide (0 ≤ i) && decide (i < xs.length) then K (.elt j ver i.toNat 0) x.s else none else none
      | _ => none
    | _, _, _ => none
  | .slice t a lo hi mx => match elemT P t, mx, aval x a, bound (aval x) lo, bound (aval x) hi with
    | some e, none, some (.vec j ver), some lo, some hi => match x.s.vc[j]? with
      | some (some (cur, sz, xs)) => bif Nat.beq cur ver && Nat.beq sz (sizeT P e) then (bif kindIs E f dst 5 then sliceL xs lo hi fun _ => K (.win j ver (loN lo) (hiN hi xs.length)) x.s else sliceL xs lo hi fun xs => K (.vec j (ver + 1)) { x.s with vc := x.s.vc.set j (some (ver + 1, sz, xs)) }) else none
      | _ => none
    | _, _, _, _, _ => none
  | .makeFunc (.func g) first caps => bif first.isEmpty then (match caps.toList.mapM (aval x) with
      | some l => match captures l x.s with | some (ps, s) => K (.pv (.fn g ps)) s | none => none
      | none => none) else none
  | .call c => match c.callee with
    | .builtin .append => match c.args.toList, c.argTypes.toList with
      | [a, b], [t, t'] => bif Nat.beq t t' then (match aval x a, aval x b with | some (.vec j ver), some b => appendVec P t j ver b x.s K | some (.pv .nils), some b => bif kindIs E f dst 2 then appendNilV P t b x.s K else appendAV P t (.pv .nils) b x.s K | some a, some b => appendAV P t a b x.s K | _, _ => none) else none
      | _, _ => none
    | .builtin .len => match c.args.toList, c.argTypes.toList with
      | [a], [t] => match P.underlying t, aval x a with
        | some (.slice _), some (.vec j ver) => match x.s.vc[j]? with
          | some (some (cur, _, xs)) => bif Nat.beq cur ver then K (.pv (.int .i64 xs.length)) x.s else none
          | _ => none
        | _, _ => none
      | _, _ => none
    | .builtin .clear => match c.args.toList, c.argTypes.toList with
      | [a], [t] => match aval x a, elemT P t with
        | some (.win j ver lo hi), some e => match x.s.vc[j]?, zeroPV P e with
          | some (some (cur, sz, xs)), some z => bif Nat.beq cur ver && Nat.beq sz 1 && z.one then K .any { x.s with vc := x.s.vc.set j (some (cur, 1, clr xs lo hi z)) } else none
          | _, _ => none
        | _, _ => none
      | _, _ => none
    | .builtin _ => none
    | .invoke .. => none
    | .value (.func g) => match c.args.toList.mapM (aval x) with
      | some l => bif E.moved g then callM P E g l c.argTypes.toList ty x.s K else bif anyRef E g 0 l then callR P E f g l c.argTypes.toList ty dst x.s K else bif lendAt E f dst then (match pubAll l x.s, dst with
        | some (ps, _), some d => match E.kind f d, elemT P ty with
          | 1, some e => (E.call g (ps.map .pv)).bind fun r => (retB (sizeT P e) r).bind fun xs => bif (shOf P e).flat && !(shOf P e).isTup && xs.all (shOf P e).fits then newTip x.s (sizeT P e) xs K else none
          | _, _ => (E.call g (ps.map .pv)).bind fun r => (retPV r).bind fun r => bif (shRes P ty).flat && (shRes P ty).fits r then K (.pv ((shRes P ty).view r)) x.s else none
        | _, _ => none) else match passAll E g 0 l x.s with
        | some (as, ids, s) => bif nodup ids then (match dst with
          | some d => match E.kind f d, elemT P ty with
            | 2, some e => (E.call g as).bind fun r => (retV (sizeT P e) r).bind fun xs => newVec (s.given ids) (sizeT P e) xs K
            | 1, some e => (E.call g as).bind fun r => (retB (sizeT P e) r).bind fun xs => newTip (s.given ids) (sizeT P e) xs K
            | 6, _ => (E.call g as).bind fun r => takeT P ty r (s.given ids) K
            | _, _ => (E.call g as).bind fun r => (retPV r).bind fun r => bif (shRes P ty).fits r then K (.pv ((shRes P ty).view r)) (s.given ids) else none
          | none => none) else none
        | none => none
      | none => none
    | .value _ => none
  | _ => none

/-- Which operations depend on their operands alone. -/
def isP : Op → Bool
  | .move _ | .assign _ | .pick .. | .build .. | .buildSlice .. | .nilCheck _ | .binOp .. | .unOp .. | .convert .. | .fieldAddr .. | .field .. | .indexAddr .. | .index .. | .extract .. | .slice .. | .makeFunc .. => true
  | .call c => match c.callee with
    | .builtin .append => false
    | .builtin .clear => false
    | _ => true
  | _ => false
def plain (o : Oper) : Bool := isP o.op && (match o.dst with | some d => Nat.beq (E.kind f d) 0 | none => true) && !lendAt E f o.dst

/-- An operation that may look at a vector, but looks at a list. -/
def notVec : Option AV → Bool
  | some (.vec ..) => false
  | some (.win ..) => false
  | _ => true
def vecFree (av : Operand → Option AV) (op : Op) : Bool :=
  match op with
  | .indexAddr _ a _ => notVec (av a)
  | .call c => match c.callee with
    | .builtin .len => match c.args.toList with | [a] => notVec (av a) | _ => false
    | _ => false
  | _ => false

def eff (o : Oper) (x : AS) (K : AV → St → Option ρ) : Option ρ :=
  bif plain E f o || vecFree (aval x) o.op then effP P E (aval x) o.op o.type o.dst fun v => K v x.s else effS P E f x o.op o.type o.dst K

/-- A list of operations, one behind the other. -/
def effs (all : Array Oper) : List Oper → AS → (AS → Option ρ) → Option ρ
  | [], x, K => K x
  | o :: rest, x, K => match o.guard with
    | none => eff P E f o x fun v s => effs all rest ({ x with s := s }.put o.dst v) K
    | some (j, want) => match (all[j]?).bind (·.dst) with
      | none => none
      | some d => match x.t[d]? with
        | some (.pv (.bool g)) => bif g
          then (bif want then eff P E f o (x.put (some d) (.pv (.bool true))) fun v s => effs all rest ({ x.put (some d) (.pv (.bool true)) with s := s }.put o.dst v) K else effs all rest ((x.put (some d) (.pv (.bool true))).put o.dst .undef) K)
          else (bif want then effs all rest ((x.put (some d) (.pv (.bool false))).put o.dst .undef) K else eff P E f o (x.put (some d) (.pv (.bool false))) fun v s => effs all rest ({ x.put (some d) (.pv (.bool false)) with s := s }.put o.dst v) K)
        | some .undef => effs all rest (x.put o.dst .undef) K
        | _ => none

/-- What is done behind a piece of code. -/
structure Ks (ρ : Type) where
  normal : AS → Option ρ
  exits : List (Nat × (AS → Option ρ))
  ret : AS → Option ρ

def exitK : List (Nat × (AS → Option ρ)) → Nat → AS → Option ρ
  | [], _, _ => none
  | (j, k) :: l, i, x => bif Nat.beq j i then k x else exitK l i x

/-! ### A region whose order is drawn: what each operation looks at and changes; every order comes to the same -/
def mem (l : List Nat) (i : Nat) : Bool := match l with | [] => false | j :: l => Nat.beq j i || mem l i
def ons : List Edge → List Nat
  | [] => []
  | e :: l => bif Region.binds .any e then e.on :: ons l else ons l
/-- What must have come up ahead. -/
def preOf (acc : List (List Nat)) : List Nat → List Nat
  | [] => []
  | i :: l => i :: (acc.getD i [] ++ preOf acc l)
def pres (acc : List (List Nat)) : List Oper → List (List Nat)
  | [] => acc
  | o :: l => pres (acc ++ [preOf acc (ons o.after.toList)]) l
def dstIs (d : Nat) (o : Oper) : Bool := match o.dst with | some e => Nat.beq e d | none => false
/-- Slots: whoever writes what another looks at, or writes, is ordered with it. -/
def slotsOk (looks : List Nat) (dst : Option Nat) (p : List Nat) (i : Nat) (ps : List (List Nat)) : List Oper → Nat → Bool
  | [], _ => true
  | o :: l, j => (match o.dst with
      | none => true
      | some d => Nat.beq j i || !(mem looks d || (match dst with | some e => Nat.beq e d | none => false)) || (bif Nat.blt j i then mem p j else mem (ps.getD j []) i)) && slotsOk looks dst p i ps l (j + 1)
def drawOkL (all : Array Oper) (ps : List (List Nat)) : List Oper → Nat → Bool
  | [], _ => true
  | o :: l, i => (ons o.after.toList).all (fun j => Nat.blt j i) && slotsOk (o.looksAt all) o.dst (ps.getD i []) i ps all.toList 0 && drawOkL all ps l (i + 1)

structure Fp where
  r : List Nat
  w : List Nat
  tv : Bool
  rv : Bool
  deriving Inhabited
def Fp.meets (f g : Fp) : Bool := (f.tv && (g.tv || g.rv)) || (f.rv && g.tv) || f.w.any (fun b => mem g.r b || mem g.w b) || g.w.any (fun b => mem f.r b)
def okFp (p : List Nat) (fp : Fp) : List Fp → Nat → Bool
  | [], _ => true
  | g :: l, j => (!(Fp.meets g fp) || mem p j) && okFp p fp l (j + 1)

def isAlloc : Op → Bool
  | .alloc _ => true
  | .box .. => true
  | _ => false
def avR (looks : List Nat) (x : AS) : Operand → Option AV
  | .tmp t => bif mem looks t then x.t[t]? else none
  | y => aval x y

/-- The boxes that are handed over. -/
def refBoxes : List AV → List Nat
  | [] => []
  | .box i _ :: l => i :: refBoxes l
  | .mp i :: l => i :: refBoxes l
  | _ :: l => refBoxes l
/-- An operation of such a region: its value, the store, what it looked at. 'b': the box that is kept for it. -/
def effD (all : Array Oper) (b : Nat) (o : Oper) (x : AS) (K : AV → St → Fp → Option ρ) : Option ρ :=
  bif plain E f o || vecFree (avR (o.looksAt all) x) o.op then effP P E (avR (o.looksAt all) x) o.op o.type o.dst fun v => K v x.s ⟨[], [], false, false⟩
  else match o.op with
    | .alloc t => match zeroCells P t, x.s.bx[b]? with
      | some cs, some (true, []) => K (.box b 0) { x.s with bx := x.s.bx.set b (false, cs.map .pv) } ⟨[], [b], false, false⟩
      | _, _ => none
    | .box t a => match avR (o.looksAt all) x a, x.s.bx[b]? with
      | some v, some (true, []) => match v.cellsAV with
        | some cs => bif Nat.beq cs.length (sizeT P t) && cs.all AV.cell then K (.box b 0) { x.s with bx := x.s.bx.set b (false, cs) } ⟨[], [b], false, false⟩ else none
        | none => none
      | _, _ => none
    | .load t a => match avR (o.looksAt all) x a with
      | some (.box i off) => loadAV P t (.box i off) x.s fun v => K v x.s ⟨[i], [], false, false⟩
      | some (.pv p) => loadAV P t (.pv p) x.s fun v => K v x.s ⟨[], [], false, false⟩
      | some (.elt i ver j k) => loadAV P t (.elt i ver j k) x.s fun v => K v x.s ⟨[], [], false, true⟩
      | _ => none
    | .store t a v => match avR (o.looksAt all) x a, avR (o.looksAt all) x v with
      | some (.box i off), some v => storeAV P t (.box i off) v x.s fun s => K .undef s ⟨[], [i], false, false⟩
      | some (.elt i ver j k), some v => storeAV P t (.elt i ver j k) v x.s fun s => K .undef s ⟨[], [], true, false⟩
      | _, _ => none
    | .makeFunc (.func g) first caps => bif first.isEmpty then (match caps.toList.mapM (avR (o.looksAt all) x) with
      | some l => bif (frozen l).all (hasCells x.s) then (match captures l x.s with | some (ps, s) => K (.pv (.fn g ps)) s ⟨[], frozen l, false, false⟩ | none => none) else none
      | none => none) else none
    | .build t parts => buildAV P (avR (o.looksAt all) x) t parts.toList fun v => K v x.s ⟨[], [], false, false⟩
    | .indexAddr t a i => match elemT P t, avR (o.looksAt all) x a, avR (o.looksAt all) x i with
      | some e, some (.vec j ver), some (.pv (.int .i64 i)) => match x.s.vc[j]? with
        | some (some (cur, sz, xs)) => bif Nat.beq cur ver && Nat.beq sz (sizeT P e) then bif decide (0 ≤ i) && decide (i < xs.length) then K (.elt j ver i.toNat 0) x.s ⟨[], [], false, true⟩ else none else none
        | _ => none
      | _, _, _ => none
    | .buildSlice t n parts => match elemT P t with
      | some e => match zeroPV P e, partsPV (avR (o.looksAt all) x) parts.toList with
        | some z, some ps => bif Nat.ble (n * sizeT P e) 65536 && Nat.blt 0 (sizeT P e) then (match fillE (sizeT P e) (List.replicate n z) ps with
          | some xs => K (.bld x.s.tp.length 0 xs) { x.s with tp := x.s.tp ++ [(0, sizeT P e)] } ⟨[], [], true, false⟩
          | none => none) else none
        | _, _ => none
      | none => none
    | .call c => match c.callee with
      | .builtin .append => match c.args.toList, c.argTypes.toList with
        | [a, b], [t, t'] => bif Nat.beq t t' then (match avR (o.looksAt all) x a, avR (o.looksAt all) x b with | some a, some b => appendAV P t a b x.s fun v s => K v s ⟨[], [], true, false⟩ | _, _ => none) else none
        | _, _ => none
      | .value (.func g) => match c.args.toList.mapM (avR (o.looksAt all) x), o.dst with
        | some l, some d => bif E.moved g then callM P E g l c.argTypes.toList o.type x.s fun v s => K v s ⟨[], [], true, false⟩ else bif anyRef E g 0 l then callR P E f g l c.argTypes.toList o.type (some d) x.s fun v s => K v s ⟨[], refBoxes l, true, false⟩ else bif lendAt E f (some d) then (match pubAll l x.s with
            | some (ps, _) => match E.kind f d, elemT P o.type with
              | 1, some e => (E.call g (ps.map .pv)).bind fun r => (retB (sizeT P e) r).bind fun xs => bif (shOf P e).flat && !(shOf P e).isTup && xs.all (shOf P e).fits then K (.bld x.s.tp.length 0 xs) { x.s with tp := x.s.tp ++ [(0, sizeT P e)] } ⟨[], [], true, false⟩ else none
              | _, _ => (E.call g (ps.map .pv)).bind fun r => (retPV r).bind fun r => bif (shRes P o.type).flat && (shRes P o.type).fits r then K (.pv ((shRes P o.type).view r)) x.s ⟨[], [], true, false⟩ else none
            | none => none)
          else match passAll E g 0 l x.s, elemT P o.type with
          | some (as, ids, s), some e => bif nodup ids then (match E.kind f d with
              | 1 => (E.call g as).bind fun r => (retB (sizeT P e) r).bind fun xs => newTip (s.given ids) (sizeT P e) xs fun v s => K v s ⟨[], [], true, false⟩
              | 2 => (E.call g as).bind fun r => (retV (sizeT P e) r).bind fun xs => newVec (s.given ids) (sizeT P e) xs fun v s => K v s ⟨[], [], true, false⟩
              | _ => none) else none
          | _, _ => none
        | _, _ => none
      | _ => none
    | _ => none

def effsD (all : Array Oper) (ps : List (List Nat)) (np : Nat) : List Oper → Nat → List Fp → AS → (AS → Option ρ) → Option ρ
  | [], _, _, x, K => K x
  | o :: rest, i, fps, x, K => match o.guard with
    | none => effD P E f all (np + i) o x fun v s fp => bif okFp (ps.getD i []) fp fps 0 then effsD all ps np rest (i + 1) (fps ++ [fp]) ({ x with s := s }.put o.dst v) K else none
    | some (j, want) => match (all[j]?).bind (·.dst) with
      | none => none
      | some d => match x.t[d]? with
        | some (.pv (.bool g)) => bif g
          then (bif want then effD P E f all (np + i) o (x.put (some d) (.pv (.bool true))) fun v s fp => bif okFp (ps.getD i []) fp fps 0 then effsD all ps np rest (i + 1) (fps ++ [fp]) ({ x.put (some d) (.pv (.bool true)) with s := s }.put o.dst v) K else none
            else effsD all ps np rest (i + 1) (fps ++ [⟨[], [], false, false⟩]) ((x.put (some d) (.pv (.bool true))).put o.dst .undef) K)
          else (bif want then effsD all ps np rest (i + 1) (fps ++ [⟨[], [], false, false⟩]) ((x.put (some d) (.pv (.bool false))).put o.dst .undef) K
            else effD P E f all (np + i) o (x.put (some d) (.pv (.bool false))) fun v s fp => bif okFp (ps.getD i []) fp fps 0 then effsD all ps np rest (i + 1) (fps ++ [fp]) ({ x.put (some d) (.pv (.bool false)) with s := s }.put o.dst v) K else none)
        | some .undef => effsD all ps np rest (i + 1) (fps ++ [⟨[], [], false, false⟩]) (x.put o.dst .undef) K
        | _ => none

def pending (ops : List Oper) : Nat := bif ops.any (fun o => isAlloc o.op) then ops.length else 0
def draw (ops : Array Oper) (x : AS) (K : AS → Option ρ) : Option ρ :=
  bif drawOkL ops (pres [] ops.toList) ops.toList 0 then
    effsD P E f ops (pres [] ops.toList) x.s.bx.length ops.toList 0 [] { x with s := { x.s with bx := x.s.bx ++ List.replicate (pending ops.toList) (true, []) } } K
  else none

/-- Places at which what is known is cut down to what is told: a path (0, 1: of a sequence; 2, 3: of a choice; 4: of a block; 5: of a loop), and a head. -/
abbrev Cuts := List (List Nat × Head)
def down (d : Nat) : Cuts → Cuts
  | [] => []
  | (p, h) :: l => match p with
    | [] => down d l
    | e :: p => bif Nat.beq d e then (p, h) :: down d l else down d l
def here : Cuts → Option Head
  | [] => none
  | (p, h) :: l => match p with
    | [] => some h
    | _ :: _ => here l
def cutK (c : Option Head) (g : AS → Option ρ) (x : AS) : Option ρ := match c with | some h => (x.head h).bind g | none => g x

/-- A piece of code. 'n': how many rounds a loop may take; 'bid': the block that stands around. -/
def exec (n : Nat) : Code → Nat → Cuts → Ks ρ → AS → Option ρ
  | .skip, _, _, k, x => k.normal x
  | .label _, _, _, k, x => k.normal x
  | .region _ ops drawn, _, _, k, x => bif drawn then draw P E f ops x k.normal else effs P E f ops ops.toList x k.normal
  | .seq a b, bid, ct, k, x => exec n a bid (down 0 ct) { k with normal := fun x => cutK (here (down 1 ct)) (fun x => exec n b bid (down 1 ct) k x) x } x
  | .cond c a b, bid, ct, k, x => match aval x c with
    | some (.pv (.bool c)) => bif c then exec n a bid (down 2 ct) k x else exec n b bid (down 3 ct) k x
    | _ => none
  | .block i b, _, ct, k, x => exec n b i (down 4 ct) { k with exits := (i, k.normal) :: k.exits } x
  | .loop b, bid, ct, k, x => match E.heads f bid with
    | some h => (x.head h).bind fun x => Nat.rec (motive := fun _ => AS → Option ρ) (fun _ => none) (fun _ again x => exec n b bid (down 5 ct) { k with normal := fun x => (x.head h).bind again } x) n x
    | none => none
  | .exit i, _, _, k, x => exitK k.exits i x
  | .ret, _, _, k, x => k.ret x
  | _, _, _, _, _ => none

/-! ### Calls -/
def enterT : List Arg → St → List AV × St
  | [], s => ([], s)
  | .pv p :: l, s => let r := enterT l s; (.pv p :: r.1, r.2)
  | .bld sz xs :: l, s => let r := enterT l { s with tp := s.tp ++ [(0, sz)] }; (.bld s.tp.length 0 xs :: r.1, r.2)
  | .vec sz xs :: l, s => let r := enterT l { s with vc := s.vc ++ [some (0, sz, xs)] }; (.vec s.vc.length 0 :: r.1, r.2)
  | .box cs :: l, s => let r := enterT l { s with bx := s.bx ++ [(false, cs.map .pv)] }; (.box s.bx.length 0 :: r.1, r.2)
  | .own sz xs :: l, s => let r := enterT l { s with vc := s.vc ++ [some (0, sz, xs)] }; (.vec s.vc.length 0 :: r.1, r.2)
  | .tup .. :: l, s => let r := enterT l s; (.any :: r.1, r.2)
  | .map es :: l, s => let r := enterT l { s with bx := s.bx ++ [(false, [.ment es])] }; (.mp s.bx.length :: r.1, r.2)

def resAV (keep : Bool) (x : AS) : ResultVar → Option AV
  | .tmp t => x.t[t]?
  | .cell a t => match x.t[a]? with
    | some v => bif keep then (match loadAgg P t v x.s some with | some r => some r | none => loadAV P t v x.s some) else match loadAV P t v x.s some with | some r => some r | none => loadAgg P t v x.s some
    | none => none
def resAVs (keep : Bool) (x : AS) : List ResultVar → Option (List AV)
  | [] => some []
  | r :: l => match resAV P keep x r, resAVs keep x l with
    | some v, some vs => some (v :: vs)
    | _, _ => none
/-- The first part of a struct, where it is known as nil. -/
def nilHd (cs : List AV) (ps : List PV) : List PV := match cs, ps with | .pv .nils :: _, _ :: l => .nils :: l | _, _ => ps
def keepHd (keep : Bool) (cs : List AV) (ps : List PV) : List PV := bif keep then nilHd cs ps else ps
def outOf (ty : TypeId) (v : AV) (s : St) : Option Out :=
  match v with
  | .pv .nils => bif E.keepNil f then some (.pv .nils, []) else match elemT P ty with | some e => bif Nat.blt 0 (sizeT P e) then (bif E.retVec f then some (.vec (sizeT P e) [], []) else some (.bld (sizeT P e) [], [])) else none | none => some (.pv .nils, [])
  | .pv p => some (.pv p, [])
  | .bld i ver xs => match s.tp[i]? with
    | some (cur, sz) => bif Nat.beq cur ver then some (.bld sz xs, []) else some (.pv (.lst xs), [])
    | none => some (.pv (.lst xs), [])
  | .vec i ver => match s.vc[i]? with
    | some (some (cur, sz, xs)) => bif Nat.beq cur ver && Nat.ble s.nv i then (bif E.retVec f then some (.vec sz xs, []) else some (.pv (.lst xs), [])) else bif Nat.beq cur ver && (Nat.beq i 0 && (Nat.beq cur 0 && Nat.blt 0 s.nv)) then some (.box [.int .i64 ((0 : Nat) : Int), .int .i64 xs.length], []) else none
    | _ => none
  | .win i ver lo hi => match s.vc[i]? with
    | some (some (cur, _, _)) => bif Nat.beq i 0 && (Nat.beq cur 0 && (Nat.beq ver 0 && Nat.blt 0 s.nv)) then some (.box [.int .i64 lo, .int .i64 hi], []) else none
    | _ => none
  | .agg cs => match pubAll cs s with | some (ps, _) => bif Nat.beq s.nv 0 then some (.pv (.agg (keepHd (E.keepNil f) cs ps)), []) else none | none => none
  | _ => none
/-- Several results, of which the first is a vector of one's own. -/
def tupOf (ty : TypeId) (v : AV) (l : List AV) (s : St) : Option Out :=
  match toPVs l with
  | some ps => match v with
    | .vec i ver => match s.vc[i]? with
      | some (some (cur, sz, xs)) => bif Nat.beq cur ver && Nat.ble s.nv i then some (.tup sz xs ps, []) else none
      | _ => none
    | .pv .nils => match elemT P ty with | some e => bif Nat.blt 0 (sizeT P e) then some (.tup (sizeT P e) [] ps, []) else none | none => none
    | _ => none
  | none => none
def results0 (fn : Func) (x : AS) : Option Out :=
  match resAVs P (E.keepNil f) x fn.results.toList with
  | some [v] => outOf P E f (fn.resultTypes.getD 0 0) v x.s
  | some (v :: w :: l) => bif E.retVec f then tupOf P (fn.resultTypes.getD 0 0) v (w :: l) x.s else (match pubAll (v :: w :: l) x.s with | some (ps, s) => bif Nat.beq x.s.nv 0 then some (.pv (.tup ps), []) else none | none => none)
  | some vs => match pubAll vs x.s with | some (ps, s) => bif vs.isEmpty || Nat.beq x.s.nv 0 then some (.pv (.tup ps), []) else none | none => none
  | none => none
def refsB : List (Bool × List AV) → Option (List Ref)
  | [] => some []
  | (true, _) :: _ => none
  | (false, cs) :: l => match refsB l with
    | none => none
    | some rs => match cs with
      | [.ment es] => some (.map es :: rs)
      | cs => match toPVs cs with | some ps => some (.box ps :: rs) | none => none
def refsV : List (Option (Nat × Nat × List PV)) → Option (List Ref)
  | [] => some []
  | some (0, _, xs) :: l => match refsV l with | some rs => some (.vec xs :: rs) | none => none
  | _ :: _ => none
/-- What the caller's boxes and vectors hold. -/
def refs (s : St) : Option (List Ref) := match refsB (s.bx.take s.nr), refsV (s.vc.take s.nv) with
  | some a, some b => some (a ++ b)
  | _, _ => none
def results (fn : Func) (x : AS) : Option Out :=
  match results0 P E f fn x, refs x.s with
  | some o, some rs => some (o.1, rs)
  | _, _ => none

def plainArg : Arg → Bool
  | .pv _ => true
  | .bld sz _ => Nat.blt 0 sz
  | .vec sz xs => Nat.blt 0 sz && xs.all fun x => Nat.beq x.cells.length sz
  | .box _ => true
  | .map _ => true
  | .own sz xs => Nat.blt 0 sz && xs.all fun x => Nat.beq x.cells.length sz
  | .tup .. => false
/-- The caller's boxes, and vectors. -/
def nBox : List Arg → Nat
  | [] => 0
  | .box _ :: l => nBox l + 1
  | .map _ :: l => nBox l + 1
  | _ :: l => nBox l
def nVec : List Arg → Nat
  | [] => 0
  | .vec .. :: l => nVec l + 1
  | _ :: l => nVec l
def enter (args : List Arg) : List AV × St := let r := enterT args ⟨[], [], [], 0, 0⟩; (r.1, { r.2 with nr := nBox args, nv := nVec args })

def run (n : Nat) (args : List Arg) : Option Out :=
  match P.funcs[f]? with
  | some fn => match fn.body with
    | some c => bif args.all plainArg then
        let r := enter args
        exec P E f n c 0 (E.cuts f) ⟨results P E f fn, [], results P E f fn⟩ ⟨r.1 ++ List.replicate (fn.ntmps - r.1.length) .undef, r.2⟩
      else none
    | none => none
  | none => none
end

structure Tab where
  heads : FuncId → Nat → Option Head
  kind : FuncId → Tmp → Nat
  mode : FuncId → Nat → Nat
  keepNil : FuncId → Bool
  retVec : FuncId → Bool
  cuts : FuncId → List (List Nat × Head)
  lend : FuncId → Tmp → Bool
  prim : FuncId → Option ((FuncId → List Arg → Option Out) → List Arg → Option Out)
  moved : FuncId → Bool := fun _ => false

def envOf (T : Tab) (call : FuncId → List Arg → Option Out) : Env := ⟨call, T.heads, T.kind, T.mode, T.keepNil, T.retVec, T.cuts, T.lend, T.moved⟩

/-- A call, of so many calls within one another and rounds of a loop at the most. -/
def acall (P : Program) (T : Tab) : Nat → FuncId → List Arg → Option Out
  | 0, _, _ => none
  | n + 1, f, args => match T.prim f with
    | some g => g (acall P T n) args
    | none => run P (envOf T (acall P T n)) f n args

def pcall (P : Program) (T : Tab) (n : Nat) (f : FuncId) (args : List PV) : Option PV := (acall P T n f (args.map .pv)).bind retPV

end Go.AL

/- What an operation that depends on its operands alone comes to in the machine. -/
set_option linter.unusedVariables false
set_option linter.unusedSimpArgs false
namespace Go.AL
open Go.RowKit

/-- The types' table, as the kernel looks it through. -/
def tOk (P : Program) : Bool :=
  P.types.toList.all fun i => match i.zero with
    | some z => Nat.beq z.cells.size i.size
    | none => true
def tAgg (P : Program) : Bool :=
  (List.range P.types.size).all fun t => match P.types[t]? with
    | some i => match i.zero with
      | some (.agg _) => (match P.underlying t with | some (.struct _) => true | some (.array ..) => true | _ => false)
      | some _ => (match P.underlying t with | some (.struct _) => false | some (.array ..) => false | some _ => true | none => false)
      | none => true
    | none => true

theorem info_of {P : Program} {t : TypeId} {i : TypeInfo} (h : P.types[t]? = some i) : P.info? t = some i := by
  have hlt := (Array.getElem?_eq_some_iff.1 h).1
  show P.toTables.info? t = _
  unfold Tables.info?
  rw [if_pos hlt]
  exact h

structure TOk (P : Program) : Prop where
  size : ∀ (t : TypeId) (i : TypeInfo) (z : Value), P.types[t]? = some i → i.zero = some z → z.cells.size = i.size
  agg : ∀ (t : TypeId) (i : TypeInfo) (cs : Array Value), P.types[t]? = some i → i.zero = some (.agg cs) → (∃ fs, P.underlying t = some (.struct fs)) ∨ ∃ n e, P.underlying t = some (.array n e)
  one : ∀ (t : TypeId) (i : TypeInfo) (z : Value), P.types[t]? = some i → i.zero = some z → (∀ cs, z ≠ .agg cs) → ∃ d, P.underlying t = some d ∧ (∀ fs, d ≠ .struct fs) ∧ ∀ n e, d ≠ .array n e

theorem TOk.of (P : Program) (h1 : tOk P = true) (h2 : tAgg P = true) : TOk P := by
  have look : ∀ (t : TypeId) (i : TypeInfo), P.types[t]? = some i → i ∈ P.types.toList ∧ t < P.types.size := by
    intro t i h
    have hlt := (Array.getElem?_eq_some_iff.1 h).1
    exact ⟨by rw [← (Array.getElem?_eq_some_iff.1 h).2]; exact Array.mem_toList_iff.2 (Array.getElem_mem hlt), hlt⟩
  have g2 : ∀ (t : TypeId) (i : TypeInfo), P.types[t]? = some i → _ := fun t i h => List.all_eq_true.1 h2 t (List.mem_range.2 (look t i h).2)
  refine ⟨fun t i z h hz => ?_, fun t i cs h hz => ?_, fun t i z h hz ho => ?_⟩
  · have := List.all_eq_true.1 h1 i (look t i h).1
    simp only [hz] at this
    exact beq_eq this
  · have := g2 t i h
    simp only [h, hz] at this
    split at this
    · rename_i fs e; exact .inl ⟨fs, e⟩
    · rename_i n e e'; exact .inr ⟨n, e, e'⟩
    · cases this
  · have := g2 t i h
    simp only [h, hz] at this
    cases hu : P.underlying t with
    | none => rw [hu] at this; cases z <;> first | exact absurd rfl (ho _) | cases this
    | some d =>
      rw [hu] at this
      refine ⟨d, rfl, fun fs e => ?_, fun n e' e => ?_⟩ <;> subst e <;> (cases z <;> first | exact absurd rfl (ho _) | cases this)

/-- An operation, performed, leaves a value, and a world, of which N holds. -/
def OpTo (P : Program) (o : Oper) (a : Act) (w : World) (N : Value → World → Prop) : Prop :=
  ∀ (next : Act → World → Prop) (Q : Exit → Act → World → Prop), (∀ u w', N u w' → next (a.put o.dst u) w') → o.wp P a w next Q

section
variable {P : Program} {o : Oper} {a : Act} {w : World} {N : Value → World → Prop}

theorem OpTo.value {u : Value} {w' : World} (h : (execOp a.eval o).run P w = .ok (.value u) w') (hN : N u w') : OpTo P o a w N := by
  intro next Q hn
  unfold Oper.wp
  rw [h]
  exact hn u w' hN

theorem OpTo.skip {w' : World} (h : (execOp a.eval o).run P w = .ok .skip w') (hN : N undef w') : OpTo P o a w N := by
  intro next Q hn
  unfold Oper.wp
  rw [h]
  exact hn undef w' hN

theorem OpTo.enter {g : FuncId} {args : Array Value} {w' : World} (h : (execOp a.eval o).run P w = .ok (.enter g args) w')
    (hc : Calls P g args w' fun e w'' => ∃ u, e = .returned u ∧ N u w'') : OpTo P o a w N := by
  intro next Q hn
  unfold Oper.wp
  rw [h]
  refine Calls.mono hc ?_
  rintro e w'' ⟨u, rfl, hu⟩
  exact hn u w'' hu

theorem OpTo.mono {N' : Value → World → Prop} (h : OpTo P o a w N) (hN : ∀ u w', N u w' → N' u w') : OpTo P o a w N' :=
  fun next Q hn => h next Q fun u w' hu => hn u w' (hN u w' hu)
end

section
variable {P : Program} {F : Fr} {w0 : World} {M0 : Mem} {G : Gh} {x : AS} {a : Act} {w : World}

theorem ofCell_rep {M : Mem} {v : Value} {p : PV} (h : ofCell v = some p) : PRep M p v ∧ p.one = true ∧ v.oneCell' = true := by
  unfold ofCell at h
  split at h <;> first | (obtain rfl := Option.some.inj h) | cases h
  · exact ⟨.int _ _, rfl, rfl⟩
  · exact ⟨.bool _, rfl, rfl⟩
  · exact ⟨by have := PRep.str (M := M) (‹ByteArray›).data.toList; simpa [mkStr] using this, rfl, rfl⟩
  · exact ⟨.nils, rfl, rfl⟩
  · exact ⟨.nilI, rfl, rfl⟩
  · exact ⟨.nilf, rfl, rfl⟩
  · exact ⟨.nilp, rfl, rfl⟩

theorem ofCells_rep {M : Mem} : ∀ {vs : List Value} {ps : List PV}, ofCells vs = some ps → ps.length = vs.length ∧ ∀ (i : Nat) p v, ps[i]? = some p → vs[i]? = some v → PRep M p v ∧ p.one = true ∧ v.oneCell' = true
  | [], ps, h => by obtain rfl := Option.some.inj h; exact ⟨rfl, fun i p v h1 _ => by simp at h1⟩
  | v :: vs, ps, h => by
    simp only [ofCells] at h
    split at h
    · rename_i p ps' hp hps
      obtain rfl := Option.some.inj h
      obtain ⟨g1, g2⟩ := ofCells_rep (M := M) hps
      refine ⟨by simp [g1], fun i q u h1 h2 => ?_⟩
      cases i with
      | zero => simp at h1 h2; subst h1; subst h2; exact ofCell_rep hp
      | succ i => exact g2 i q u (by simpa using h1) (by simpa using h2)
    · cases h

theorem PRep.weak {M : Mem} {p : PV} {v : Value} (h : PRep M p v) : PRep M p.weak v := by
  have nil0 : ∀ {u : Value}, PRep M .nils u → PRep M (.lst []) u := fun h => by
    cases h
    exact PRep.lst [] none 0 1 (fun _ _ => undef) (by omega) (by simp) (by simp) (by simp) (by simp) (by simp) (by simp)
  cases p with
  | nils => exact nil0 h
  | agg cs =>
    cases h with
    | agg _ us h1 h2 h3 =>
      cases cs with
      | nil => exact .agg [] us h1 h2 h3
      | cons c l =>
        cases c with
        | nils =>
          refine .agg (.lst [] :: l) us (by simpa using h1) (fun y hy => ?_) (fun i q u hq hu => ?_)
          · rcases List.mem_cons.1 hy with rfl | hy
            · rfl
            · exact h2 y (List.mem_cons_of_mem _ hy)
          · cases i with
            | zero => simp at hq; subst hq; exact nil0 (h3 0 _ u rfl hu)
            | succ i => exact h3 (i + 1) q u (by simpa using hq) hu
        | _ => exact .agg _ us h1 h2 h3
  | _ => cases h <;> first | (constructor <;> assumption) | assumption | skip
theorem PV.one_weak {p : PV} : p.weak.one = p.one := by cases p <;> rfl
theorem PV.weak_tup {p : PV} (h : ∀ cs, p ≠ .tup cs) : ∀ cs, p.weak ≠ .tup cs := by cases p <;> simp [PV.weak] at h ⊢

theorem ofConst_rep {M : Mem} {v : Value} {p : PV} (h : ofConst v = some p) : PRep M p v := by
  unfold ofConst at h
  split at h
  · rename_i cs
    split at h
    · rename_i ps hps
      obtain rfl := Option.some.inj h
      obtain ⟨g1, g2⟩ := ofCells_rep (M := M) hps
      have : PRep M (.agg (ps.map PV.weak)) (.agg cs.toList.toArray) := by
        refine .agg _ _ (by simp [g1]) ?_ ?_
        · intro y hy
          obtain ⟨q, hq, rfl⟩ := List.mem_map.1 hy
          obtain ⟨i, hi, rfl⟩ := List.mem_iff_getElem.1 hq
          rw [PV.one_weak]
          exact (g2 i ps[i] cs.toList[i] (List.getElem?_eq_getElem hi) (List.getElem?_eq_getElem (by omega))).2.1
        · intro i c v h1 h2
          rw [List.getElem?_map] at h1
          cases hq : ps[i]? with
          | none => rw [hq] at h1; cases h1
          | some q =>
            rw [hq] at h1
            obtain rfl := Option.some.inj h1
            exact (g2 i q v hq h2).1.weak
      simpa using this
    · cases h
  · exact (ofCell_rep h).1

theorem aval_rel (h : FRel G x.s x.t a.tmps) {y : Operand} {v : AV} (hv : aval x y = some v) : ARel G x.s v (a.eval y) := by
  cases y with
  | tmp t =>
    have hl : t < x.t.length := (List.getElem?_eq_some_iff.1 hv).1
    have hl2 : t < a.tmps.size := by rw [h.1]; exact hl
    refine h.2 t v _ hv ?_
    simp [Act.eval, Array.getD, hl2]
  | const c =>
    simp only [aval] at hv
    split at hv
    · rename_i p hp
      obtain rfl := Option.some.inj hv
      exact ofConst_rep hp
    · cases hv
  | global g => cases hv
  | func g =>
    obtain rfl := Option.some.inj hv
    exact PRep.fn g [] [] rfl (by simp)

theorem toPV_rel {s : St} {v : AV} {u : Value} {p : PV} (h : ARel G s v u) (hp : v.toPV = some p) : PRep G.M p u := by
  cases v <;> first | cases hp | (obtain rfl := Option.some.inj hp)
  · exact PRep.weak h
  · exact h.2.1

theorem list_rel {s : St} {v : AV} {u : Value} {xs : List PV} (h : ARel G s v u) (hp : v.list = some xs) : PRep G.M (.lst xs) u := by
  unfold AV.list at hp
  split at hp <;> first | cases hp | (obtain rfl := Option.some.inj hp)
  · exact h
  · exact PRep.weak h
  · exact PRep.weak (p := .nn xs) h
  · exact h.2.1

theorem rep_lst {M : Mem} {xs : List PV} {u : Value} (h : PRep M (.lst xs) u) : ∃ A c, u = .slice A xs.length c := by cases h; exact ⟨_, _, rfl⟩

theorem size_mkStr (s : List UInt8) : (mkStr s).size = s.length := rfl
theorem toList_mkStr (s : List UInt8) : (mkStr s).toList = s := by
  have : ∀ (b : ByteArray) (i : Nat) (acc : List UInt8), ByteArray.toList.loop b i acc = acc.reverse ++ b.data.toList.drop i := by
    intro b i acc
    fun_induction ByteArray.toList.loop b i acc with
    | case1 i r h ih =>
      rw [ih]
      have h' : i < b.data.toList.length := by simpa using h
      rw [List.drop_eq_getElem_cons h', List.reverse_cons, List.append_assoc]
      congr 1
      show [b.get! i] ++ _ = _
      have : b.get! i = b.data.toList[i] := by
        show b.data[i]! = _
        rw [getElem!_pos b.data i (by simpa using h)]
        simp
      rw [this]; rfl
    | case2 i r h =>
      rw [List.drop_eq_nil_of_le (by simpa using h)]
      simp
  show ByteArray.toList.loop _ 0 [] = _
  rw [this]
  simp [mkStr]
end
end Go.AL

/- Operations that depend on their operands alone: those that leave memory as it is. -/
set_option linter.unusedVariables false
set_option linter.unusedSimpArgs false
namespace Go.AL
open Go.RowKit

abbrev Av := Operand → Option AV
def Avs (av : Av) (G : Gh) (s : St) (a : Act) : Prop := ∀ y b, av y = some b → ARel G s b (a.eval y)

/-- The operation, at whatever state its operands are related, leaves this value. -/
def Sound1 (P : Program) (op : Op) (ty : TypeId) (av : Av) (v : AV) : Prop :=
  ∀ (F : Fr) (w0 : World) (M0 : Mem) (G : Gh) (s : St) (a : Act) (w : World) (o : Oper), SRel F w0 M0 G s w → Avs av G s a → o.op = op → o.type = ty →
    OpTo P o a w fun u w' => ∃ G', SRel F w0 M0 G' s w' ∧ Ext G s G' s ∧ ARel G' s v u

theorem Sound1.val {P : Program} {op : Op} {ty : TypeId} {av : Av} {v : AV}
    (f : ∀ (G : Gh) (s : St) (a : Act) (w : World) (o : Oper), (∀ ad u, G.M ad = some u → w.cell? ad = some u) → Avs av G s a → o.op = op → o.type = ty → ∃ u, (execOp a.eval o).run P w = .ok (.value u) w ∧ ARel G s v u) : Sound1 P op ty av v := by
  intro F w0 M0 G s a w o hS hA ho ht
  obtain ⟨u, h1, h2⟩ := f G s a w o hS.agree hA ho ht
  exact OpTo.value h1 ⟨G, hS, Ext.refl _ _, h2⟩

section
variable {P : Program} {av : Av} {ty : TypeId}

theorem s_move {y : Operand} {v : AV} (h : av y = some v) : Sound1 P (.move y) ty av v :=
  .val fun G s a w o _ hA ho _ => ⟨a.eval y, by simp [execOp, ho], hA y v h⟩
theorem s_assign {y : Operand} {v : AV} (h : av y = some v) : Sound1 P (.assign y) ty av v :=
  .val fun G s a w o _ hA ho _ => ⟨a.eval y, by simp [execOp, ho], hA y v h⟩

theorem rep_bool {M : Mem} {b : Bool} {u : Value} (h : PRep M (.bool b) u) : u = .bool b := by cases h; rfl
theorem rep_int {M : Mem} {k : IntKind} {n : Int} {u : Value} (h : PRep M (.int k n) u) : u = .int k n := by cases h; rfl
theorem rep_str {M : Mem} {s : List UInt8} {u : Value} (h : PRep M (.str s) u) : u = .string (mkStr s) := by cases h; rfl

theorem s_pick {c y z : Operand} {b : Bool} {v : AV} (hc : av c = some (.pv (.bool b))) (h : (bif b then av y else av z) = some v) : Sound1 P (.pick c y z) ty av v :=
  .val fun G s a w o _ hA ho _ => by
    have := rep_bool (hA c _ hc)
    cases b
    · exact ⟨a.eval z, by simp [execOp, ho, this, asBool], hA z v h⟩
    · exact ⟨a.eval y, by simp [execOp, ho, this, asBool], hA y v h⟩

theorem rep_ptr {M : Mem} {cs : List PV} {u : Value} (h : PRep M (.ptr cs) u) : ∃ (ad : Addr) (vs : Nat → Value), u = .pointer (some ad) ∧ (∀ y, y ∈ cs → y.one = true) ∧ (∀ (k : Nat) c, cs[k]? = some c → M (ad.add k) = some (vs k)) ∧
    ∀ (k : Nat) c, cs[k]? = some c → PRep M c (vs k) := by
  cases h with
  | ptr cs ad vs ho hm hr => exact ⟨ad, vs, rfl, ho, hm, hr⟩
theorem rep_fn {M : Mem} {g : FuncId} {cap : List PV} {u : Value} (h : PRep M (.fn g cap) u) : ∃ vs : List Value, u = .func (.func g) #[] vs.toArray ∧ vs.length = cap.length ∧ ∀ (i : Nat) c v, cap[i]? = some c → vs[i]? = some v → PRep M c v := by
  cases h with
  | fn f cap vs hl hr => exact ⟨vs, rfl, hl, hr⟩

theorem s_nilCheck {y : Operand} {v : AV} (h : av y = some v) (hv : (∃ i off, v = .box i off) ∨ (∃ cs, v = .pv (.ptr cs)) ∨ ∃ g cap, v = .pv (.fn g cap)) : Sound1 P (.nilCheck y) ty av v :=
  .val fun G s a w o _ hA ho _ => by
    have := hA y v h
    rcases hv with ⟨i, off, rfl⟩ | ⟨cs, rfl⟩ | ⟨g, cap, rfl⟩
    · obtain ⟨_, b, _, e⟩ := this
      exact ⟨_, by simp [execOp, ho, e]; rfl, hA y _ h |> fun q => by rw [e] at q; exact q⟩
    · obtain ⟨ad, _, e, _⟩ := rep_ptr this
      exact ⟨_, by simp [execOp, ho, e]; rfl, by rw [e] at this; exact this⟩
    · obtain ⟨vs, e, _⟩ := rep_fn this
      exact ⟨_, by simp [execOp, ho, e]; rfl, by rw [e] at this; exact this⟩

theorem execOp_bin {a : Act} {o : Oper} {op : BinOp} {t t' : TypeId} {y z : Operand} (ho : o.op = .binOp op t y z t') (w : World) {u : Value}
    (hg : (eqGuard op t y z (a.eval y) (a.eval z)).run P w = .ok () w) (hr : (binOp op t (a.eval y) (a.eval z)).run P w = .ok u w) : (execOp a.eval o).run P w = .ok (.value u) w := by
  simp [execOp, ho, hg, hr]

theorem run_eqGuard_of {op : BinOp} {t : TypeId} {y z : Operand} {u v : Value} (w : World) (h : u ≠ .nilIface ∧ ∀ cs, u ≠ .agg cs) : (eqGuard op t y z u v).run P w = .ok () w := by
  cases u <;> first | exact absurd rfl h.1 | exact absurd rfl (h.2 _) | (cases op <;> rfl)

theorem run_intArith {op : BinOp} {k : IntKind} {x y : Int} (w : World) : (binOp op 0 (.int k x) (.int k y)).run P w = (binOp op 0 (.int k x) (.int k y)).run P w := rfl

theorem binI_sound {ρ : Type} {op : BinOp} {k : IntKind} {x y : Int} {K : PV → Option ρ} {r : ρ} (h : binI op k x y K = some r) (hs : op ≠ .shl ∧ op ≠ .shr) :
    ∃ p, K p = some r ∧ ∀ (M : Mem) (t : TypeId) (w : World), ∃ u, (binOp op t (.int k x) (.int k y)).run P w = .ok u w ∧ PRep M p u := by
  cases op <;> simp only [binI] at h <;> first
    | (exact absurd rfl hs.1)
    | (exact absurd rfl hs.2)
    | (refine ⟨_, h, fun M t w => ⟨_, ?_, PRep.int _ _⟩⟩; simp [binOp, Op.intArith, Op.intBits, Op.intCmp]; done)
    | (refine ⟨_, h, fun M t w => ⟨_, ?_, PRep.bool _⟩⟩; simp [binOp, Op.intArith, Op.intBits, Op.intCmp]; done)
    | skip
  · by_cases h0 : y = 0
    · simp [h0] at h
    · simp [h0] at h
      refine ⟨_, h, fun M t w => ⟨_, ?_, PRep.int _ _⟩⟩
      simp [binOp, Op.intDiv, h0]
  · by_cases h0 : y = 0
    · simp [h0] at h
    · simp [h0] at h
      refine ⟨_, h, fun M t w => ⟨_, ?_, PRep.int _ _⟩⟩
      simp [binOp, Op.intDiv, h0]

theorem mkStr_append (x y : List UInt8) : mkStr x ++ mkStr y = mkStr (x ++ y) := by
  apply ByteArray.ext
  simp [mkStr, ByteArray.data_append]

theorem binS_sound {ρ : Type} {op : BinOp} {x y : List UInt8} {K : PV → Option ρ} {r : ρ} (h : binS op x y K = some r) (hs : op ≠ .shl ∧ op ≠ .shr) :
    ∃ p, K p = some r ∧ ∀ (M : Mem) (t : TypeId) (w : World), ∃ u, (binOp op t (.string (mkStr x)) (.string (mkStr y))).run P w = .ok u w ∧ PRep M p u := by
  cases op <;> simp only [binS] at h <;> first
    | (exact absurd rfl hs.1)
    | (exact absurd rfl hs.2)
    | (cases h; done)
    | (refine ⟨_, h, fun M t w => ⟨_, ?_, PRep.bool _⟩⟩; simp [binOp, Op.stringOp, toList_mkStr]; done)
    | skip
  cases hd : decide (x.length + y.length ≤ 2147483648) with
  | false => rw [hd] at h; cases h
  | true =>
    rw [hd] at h
    have hl := of_decide_eq_true hd
    refine ⟨_, h, fun M t w => ⟨_, ?_, PRep.str _⟩⟩
    have hle : ¬ (((mkStr x).size + (mkStr y).size : Nat) : Int) > IntKind.i64.max := by
      rw [size_mkStr, size_mkStr]
      show ¬ _ > (9223372036854775807 : Int)
      omega
    simp only [binOp, Op.stringOp]
    rw [if_neg hle, mkStr_append]
    rfl

theorem some?_eq {xs : List PV} {b : Bool} (h : some? xs = some b) : xs ≠ [] := by cases xs <;> simp [some?] at h ⊢


theorem rep_nils {M : Mem} {u : Value} (h : PRep M .nils u) : u = .slice none 0 0 := by cases h; rfl

theorem rep_lst_ne {M : Mem} {xs : List PV} {u : Value} (h : PRep M (.lst xs) u) (hn : xs ≠ []) : ∃ ad c, u = .slice (some ad) xs.length c := by
  cases h with
  | lst xs A cap sz vs hsz hcap hs ho hA hm hr =>
    have := hA (Nat.lt_of_lt_of_le (List.length_pos_iff.2 hn) hcap)
    cases A with
    | none => exact absurd rfl this
    | some ad => exact ⟨ad, cap, rfl⟩

theorem rep_nn {M : Mem} {xs : List PV} {u : Value} (h : PRep M (.nn xs) u) : ∃ ad n c, u = .slice (some ad) n c := by cases h; exact ⟨_, _, _, rfl⟩

theorem isSl_eq {d : Option TypeDesc} (h : isSl d = true) : ∃ e, d = some (.slice e) := by
  unfold isSl at h; split at h <;> first | exact ⟨_, rfl⟩ | cases h
theorem isBo_eq {d : Option TypeDesc} (h : isBo d = true) : d = some .bool := by
  unfold isBo at h; split at h <;> first | rfl | cases h

theorem run_equal_bool {t : TypeId} (ht : P.underlying t = some .bool) (x y : Bool) (w : World) : (Op.equal t (.bool x) (.bool y)).run P w = .ok (x == y) w := by
  have : ∀ d, (Op.equalIn (d + 1) t (.bool x) (.bool y)).run P w = .ok (x == y) w := fun d => by simp [Op.equalIn, run_underlying ht]
  exact this 9999
theorem run_equal_nil {t e : TypeId} (ht : P.underlying t = some (.slice e)) (A : Option Addr) (n c : Nat) (w : World) : (Op.equal t (.slice A n c) (.slice none 0 0)).run P w = .ok A.isNone w := by
  have : ∀ d, (Op.equalIn (d + 1) t (.slice A n c) (.slice none 0 0)).run P w = .ok A.isNone w := fun d => by cases A <;> simp [Op.equalIn, run_underlying ht]
  exact this 9999

theorem binPV_sound {ρ : Type} {t : TypeId} {op : BinOp} {p q : PV} {K : PV → Option ρ} {r : ρ} (h : binPV (P.underlying t) op p q K = some r) :
    ∃ res, K res = some r ∧ ∀ (M : Mem) (w : World) (u v : Value), PRep M p u → PRep M q v → (∃ z, (binOp op t u v).run P w = .ok z w ∧ PRep M res z) ∧ u ≠ .nilIface ∧ ∀ cs, u ≠ .agg cs := by
  unfold binPV at h
  split at h
  · rename_i k x k' y
    cases hd : decide (0 ≤ y) with
    | false => rw [hd] at h; cases h
    | true =>
      rw [hd] at h
      have hy := of_decide_eq_true hd
      refine ⟨_, h, fun M w u v hu hv => ?_⟩
      rw [rep_int hu, rep_int hv]
      refine ⟨⟨_, ?_, PRep.int _ _⟩, by simp, by simp⟩
      simp [binOp, Op.shift, show ¬ y < 0 by omega]
  · rename_i k x k' y
    cases hd : decide (0 ≤ y) with
    | false => rw [hd] at h; cases h
    | true =>
      rw [hd] at h
      have hy := of_decide_eq_true hd
      refine ⟨_, h, fun M w u v hu hv => ?_⟩
      rw [rep_int hu, rep_int hv]
      refine ⟨⟨_, ?_, PRep.int _ _⟩, by simp, by simp⟩
      simp [binOp, Op.shift, show ¬ y < 0 by omega]
  · rename_i k x k' y hn1 hn2
    cases hd : decide (k = k') with
    | false => rw [hd] at h; cases h
    | true =>
      rw [hd] at h
      obtain rfl := of_decide_eq_true hd
      obtain ⟨res, g1, g2⟩ := binI_sound (P := P) h ⟨fun e => by subst e; exact hn1 rfl, fun e => by subst e; exact hn2 rfl⟩
      refine ⟨res, g1, fun M w u v hu hv => ?_⟩
      rw [rep_int hu, rep_int hv]
      exact ⟨g2 M t w, by simp, by simp⟩
  · rename_i x y
    by_cases hs : op ≠ .shl ∧ op ≠ .shr
    · obtain ⟨res, g1, g2⟩ := binS_sound (P := P) h hs
      refine ⟨res, g1, fun M w u v hu hv => ?_⟩
      rw [rep_str hu, rep_str hv]
      exact ⟨g2 M t w, by simp, by simp⟩
    · cases op <;> first | exact absurd ⟨by decide, by decide⟩ hs | cases h
  · rename_i x y
    cases hd : isBo (P.underlying t) with
    | false => rw [hd] at h; cases h
    | true =>
      rw [hd] at h
      refine ⟨_, h, fun M w u v hu hv => ?_⟩
      rw [rep_bool hu, rep_bool hv]
      refine ⟨⟨_, ?_, PRep.bool _⟩, by simp, by simp⟩
      simp [binOp, run_equal_bool (isBo_eq hd)]
  · rename_i x y
    cases hd : isBo (P.underlying t) with
    | false => rw [hd] at h; cases h
    | true =>
      rw [hd] at h
      refine ⟨_, h, fun M w u v hu hv => ?_⟩
      rw [rep_bool hu, rep_bool hv]
      refine ⟨⟨_, ?_, PRep.bool _⟩, by simp, by simp⟩
      simp [binOp, run_equal_bool (isBo_eq hd)]
  · cases hd : isSl (P.underlying t) with
    | false => rw [hd] at h; cases h
    | true =>
      rw [hd] at h
      obtain ⟨e, he⟩ := isSl_eq hd
      refine ⟨_, h, fun M w u v hu hv => ?_⟩
      rw [rep_nils hu, rep_nils hv]
      refine ⟨⟨_, ?_, PRep.bool _⟩, by simp, by simp⟩
      simp [binOp, run_equal_nil he]
  · cases hd : isSl (P.underlying t) with
    | false => rw [hd] at h; cases h
    | true =>
      rw [hd] at h
      obtain ⟨e, he⟩ := isSl_eq hd
      refine ⟨_, h, fun M w u v hu hv => ?_⟩
      rw [rep_nils hu, rep_nils hv]
      refine ⟨⟨_, ?_, PRep.bool _⟩, by simp, by simp⟩
      simp [binOp, run_equal_nil he]
  · rename_i xs
    cases hd : isSl (P.underlying t) with
    | false => rw [hd] at h; cases h
    | true =>
      rw [hd] at h
      obtain ⟨e, he⟩ := isSl_eq hd
      cases hx : some? xs with
      | none => rw [hx] at h; cases h
      | some b =>
        rw [hx] at h
        refine ⟨_, h, fun M w u v hu hv => ?_⟩
        obtain ⟨ad, c, rfl⟩ := rep_lst_ne hu (some?_eq hx)
        rw [rep_nils hv]
        refine ⟨⟨_, ?_, PRep.bool _⟩, by simp, by simp⟩
        simp [binOp, run_equal_nil he]
  · rename_i xs
    cases hd : isSl (P.underlying t) with
    | false => rw [hd] at h; cases h
    | true =>
      rw [hd] at h
      obtain ⟨e, he⟩ := isSl_eq hd
      cases hx : some? xs with
      | none => rw [hx] at h; cases h
      | some b =>
        rw [hx] at h
        refine ⟨_, h, fun M w u v hu hv => ?_⟩
        obtain ⟨ad, c, rfl⟩ := rep_lst_ne hu (some?_eq hx)
        rw [rep_nils hv]
        refine ⟨⟨_, ?_, PRep.bool _⟩, by simp, by simp⟩
        simp [binOp, run_equal_nil he]
  · rename_i xs
    cases hd : isSl (P.underlying t) with
    | false => rw [hd] at h; cases h
    | true =>
      rw [hd] at h
      obtain ⟨e, he⟩ := isSl_eq hd
      refine ⟨_, h, fun M w u v hu hv => ?_⟩
      obtain ⟨ad, n, c, rfl⟩ := rep_nn hu
      rw [rep_nils hv]
      refine ⟨⟨_, ?_, PRep.bool _⟩, by simp, by simp⟩
      simp [binOp, run_equal_nil he]
  · rename_i xs
    cases hd : isSl (P.underlying t) with
    | false => rw [hd] at h; cases h
    | true =>
      rw [hd] at h
      obtain ⟨e, he⟩ := isSl_eq hd
      refine ⟨_, h, fun M w u v hu hv => ?_⟩
      obtain ⟨ad, n, c, rfl⟩ := rep_nn hu
      rw [rep_nils hv]
      refine ⟨⟨_, ?_, PRep.bool _⟩, by simp, by simp⟩
      simp [binOp, run_equal_nil he]
  · cases h

theorem s_bin {ρ : Type} {op : BinOp} {t t' : TypeId} {y z : Operand} {a b : AV} {p q : PV} (hy : av y = some a) (hz : av z = some b) (hp : ∀ G s u, ARel G s a u → PRep G.M p u) (hq : ∀ G s u, ARel G s b u → PRep G.M q u) {K : PV → Option ρ} {r : ρ}
    (h : binPV (P.underlying t) op p q K = some r) : ∃ res, K res = some r ∧ Sound1 P (.binOp op t y z t') ty av (.pv res) := by
  obtain ⟨res, g1, g2⟩ := binPV_sound (P := P) h
  refine ⟨res, g1, .val fun G s a' w o _ hA ho _ => ?_⟩
  obtain ⟨⟨x, h1, h2⟩, h3, h4⟩ := g2 G.M w _ _ (hp G s _ (hA y _ hy)) (hq G s _ (hA z _ hz))
  exact ⟨x, execOp_bin ho w (run_eqGuard_of w ⟨h3, h4⟩) h1, h2⟩

theorem s_un {ρ : Type} {op : UnOp} {t : TypeId} {y : Operand} {p : PV} (hy : av y = some (.pv p)) {K : PV → Option ρ} {r : ρ} (h : unPV op p K = some r) : ∃ res, K res = some r ∧ Sound1 P (.unOp op t y) ty av (.pv res) := by
  unfold unPV at h
  split at h
  · refine ⟨_, h, .val fun G s a w o _ hA ho _ => ?_⟩
    have := rep_bool (hA y _ hy)
    exact ⟨_, by simp [execOp, ho, this, Op.unary], PRep.bool _⟩
  · refine ⟨_, h, .val fun G s a w o _ hA ho _ => ?_⟩
    have := rep_int (hA y _ hy)
    exact ⟨_, by simp [execOp, ho, this, Op.unary, Op.intArith], PRep.int _ _⟩
  · cases h

theorem s_fieldAddr {t : TypeId} {y : Operand} {i : Nat} {fs : Array Field} {fd : Field} (ht : P.underlying t = some (.struct fs)) (hf : fs[i]? = some fd) {j : TypeInfo} (hj : P.types[fd.type]? = some j) (hz : j.size ≠ 0) :
    (∀ cs, av y = some (.pv (.ptr cs)) → Sound1 P (.fieldAddr t y i) ty av (.pv (.ptr (cs.drop fd.offset)))) ∧
    (∀ b off, av y = some (.box b off) → Sound1 P (.fieldAddr t y i) ty av (.box b (off + fd.offset))) ∧
    (∀ b v j' k, av y = some (.elt b v j' k) → Sound1 P (.fieldAddr t y i) ty av (.elt b v j' (k + fd.offset))) := by
  have run : ∀ (a : Act) (o : Oper) (w : World) (ad : Addr), a.eval y = .pointer (some ad) → o.op = .fieldAddr t y i → (execOp a.eval o).run P w = .ok (.value (.pointer (some (ad.add fd.offset)))) w := by
    intro a o w ad he ho
    simp [execOp, ho, Instr.fieldAt, run_underlying ht, hf, he, Instr.sureAddr, fieldPlace, sizeOf, typeInfo, info_of hj, hz]
  refine ⟨fun cs hy => .val fun G s a w o _ hA ho _ => ?_, fun b off hy => .val fun G s a w o _ hA ho _ => ?_, fun b v j' k hy => ?_⟩
  · obtain ⟨ad, vs, e, g1, g2, g3⟩ := rep_ptr (hA y _ hy)
    refine ⟨_, run a o w ad e ho, .ptr _ _ (fun k => vs (fd.offset + k)) (fun z hz => g1 z (List.mem_of_mem_drop hz)) (fun k c hk => ?_) (fun k c hk => ?_)⟩
    · rw [List.getElem?_drop] at hk
      rw [Addr.add_add]
      exact g2 _ c hk
    · rw [List.getElem?_drop] at hk
      exact g3 _ c hk
  · obtain ⟨hi, bl, e1, e⟩ := hA y _ hy
    refine ⟨_, run a o w _ e ho, hi, bl, e1, by rw [Addr.add_lit]⟩
  · intro F w0 M0 G s a w o hS hA ho _
    obtain ⟨hi, ⟨q, hq⟩, hv⟩ := hA y _ hy
    refine OpTo.value (run a o w q hq ho) ⟨G, hS, Ext.refl _ _, hi, ⟨_, rfl⟩, fun cur xs e => ⟨(hv cur xs e).1, fun hc => ?_⟩⟩
    obtain ⟨ad, g1, g2⟩ := (hv cur xs e).2 hc
    refine ⟨ad, g1, ?_⟩
    rw [hq] at g2
    injection g2 with g2
    injection g2 with g2
    rw [g2, Addr.add_add, Nat.add_assoc]
end
end Go.AL

/- Structs and arrays of numbers, bools and strings: compared as a whole; keys of maps. -/
set_option linter.unusedVariables false
set_option linter.unusedSimpArgs false
namespace Go.AL
open Go.RowKit

section
variable {P : Program}

theorem bkT_eq {t : TypeId} {b : BK} (h : bkT P t = some b) : ∃ i, P.types[t]? = some i ∧ i.size = 1 ∧ ((∃ k, P.underlying t = some (.int k)) ∧ b = .int ∨ P.underlying t = some .bool ∧ b = .bool ∨ P.underlying t = some .string ∧ b = .str) := by
  unfold bkT at h
  split at h
  · rename_i i hi
    cases hs : Nat.beq i.size 1 with
    | false => rw [hs] at h; cases h
    | true =>
      rw [hs] at h
      simp only [cond_true] at h
      refine ⟨i, hi, Nat.eq_of_beq_eq_true hs, ?_⟩
      split at h <;> first | cases h | skip
      · rename_i k hk; exact .inl ⟨⟨k, hk⟩, rfl⟩
      · rename_i hk; exact .inr (.inl ⟨hk, rfl⟩)
      · rename_i hk; exact .inr (.inr ⟨hk, rfl⟩)
  · cases h

theorem run_part_bk {t : TypeId} {b : BK} (h : bkT P t = some b) {xs : Array Value} {off : Nat} {v : Value} (hx : xs[off]? = some v) (w : World) : (part t xs off).run P w = .ok v w := by
  obtain ⟨i, h1, h2, ⟨⟨k, hk⟩, _⟩ | ⟨hk, _⟩ | ⟨hk, _⟩⟩ := bkT_eq h <;> simp [part, isAgg, run_underlying hk, hx]
theorem run_size_bk {t : TypeId} {b : BK} (h : bkT P t = some b) (w : World) : (sizeOf t).run P w = .ok 1 w := by
  obtain ⟨i, h1, h2, _⟩ := bkT_eq h
  simp [sizeOf, typeInfo, info_of h1, h2]
theorem cellsOf_bk {t : TypeId} {b : BK} (h : bkT P t = some b) : P.cellsOf t = 1 ∧ ∃ i, P.info? t = some i := by
  obtain ⟨i, h1, h2, _⟩ := bkT_eq h
  exact ⟨by simp [Program.cellsOf, info_of h1, h2], i, info_of h1⟩

theorem guard_bk {t : TypeId} {b : BK} (h : bkT P t = some b) (d : Nat) (u v : Value) (w : World) : (Op.eqGuardIn (d + 1) t u v).run P w = .ok false w := by
  obtain ⟨i, h1, h2, ⟨⟨k, hk⟩, _⟩ | ⟨hk, _⟩ | ⟨hk, _⟩⟩ := bkT_eq h <;> simp [Op.eqGuardIn, run_underlying hk]

theorem check_bk {t : TypeId} {b : BK} (h : bkT P t = some b) (em : Bool) (d : Nat) (u : Value) (w : World) : (Instr.checkKey em (d + 1) t u).run P w = .ok () w := by
  obtain ⟨i, h1, h2, ⟨⟨k, hk⟩, _⟩ | ⟨hk, _⟩ | ⟨hk, _⟩⟩ := bkT_eq h <;> simp [Instr.checkKey, run_underlying hk]

theorem beq_mkStr (x y : List UInt8) : (mkStr x == mkStr y) = (x == y) := by
  show ((⟨⟨x⟩⟩ : ByteArray) == ⟨⟨y⟩⟩) = _
  show ((⟨x⟩ : Array UInt8) == ⟨y⟩) = (x == y)
  simp

/-- One cell of each. -/
theorem eq_cell {t : TypeId} {b : BK} {l : List BK} {cs ds : List PV} {r : Bool} (hb : bkT P t = some b) (h : eqCells (b :: l) cs ds = some r) :
    ∃ p cs' q ds' r1 r2, cs = p :: cs' ∧ ds = q :: ds' ∧ r = (r1 && r2) ∧ eqCells l cs' ds' = some r2 ∧
      ∀ (M : Mem) (u v : Value) (w : World) (d : Nat), PRep M p u → PRep M q v → (Op.equalIn (d + 1) t u v).run P w = .ok r1 w ∧ (r1 = true → Instr.sameBits d v u = true) := by
  obtain ⟨i, h1, h2, hk⟩ := bkT_eq hb
  cases b with
  | int =>
    cases cs with
    | nil => simp [eqCells] at h
    | cons p cs' =>
      cases ds with
      | nil => cases p <;> simp [eqCells] at h
      | cons q ds' =>
        cases p <;> first | (simp [eqCells] at h; done) | skip
        cases q <;> first | (simp [eqCells] at h; done) | skip
        rename_i k x k' y
        simp only [eqCells] at h
        cases hkk : decide (k = k') with
        | false => rw [hkk] at h; cases h
        | true =>
          rw [hkk] at h
          simp only [cond_true] at h
          split at h
          · rename_i r2 h2'
            obtain rfl := Option.some.inj h
            have hkk' := of_decide_eq_true hkk
            subst hkk'
            refine ⟨_, _, _, _, _, r2, rfl, rfl, rfl, h2', fun M u v w d hu hv => ?_⟩
            cases rep_int hu; cases rep_int hv
            rcases hk with ⟨⟨k2, hk⟩, _⟩ | ⟨_, e⟩ | ⟨_, e⟩ <;> first | cases e | skip
            refine ⟨run_equalIn_int w d t k k2 x y hk, fun e => ?_⟩
            have : x = y := by simpa using e
            subst this
            cases d <;> simp [Instr.sameBits]
          · cases h
  | bool =>
    cases cs with
    | nil => simp [eqCells] at h
    | cons p cs' =>
      cases ds with
      | nil => cases p <;> simp [eqCells] at h
      | cons q ds' =>
        cases p <;> first | (simp [eqCells] at h; done) | skip
        cases q <;> first | (simp [eqCells] at h; done) | skip
        rename_i x y
        simp only [eqCells] at h
        split at h
        · rename_i r2 h2'
          obtain rfl := Option.some.inj h
          refine ⟨_, _, _, _, _, r2, rfl, rfl, rfl, h2', fun M u v w d hu hv => ?_⟩
          cases rep_bool hu; cases rep_bool hv
          rcases hk with ⟨_, e⟩ | ⟨hk, _⟩ | ⟨_, e⟩ <;> first | cases e | skip
          refine ⟨run_equalIn_bool' w d t x y hk, fun e => ?_⟩
          have : x = y := by simpa using e
          subst this
          cases d <;> simp [Instr.sameBits]
        · cases h
  | str =>
    cases cs with
    | nil => simp [eqCells] at h
    | cons p cs' =>
      cases ds with
      | nil => cases p <;> simp [eqCells] at h
      | cons q ds' =>
        cases p <;> first | (simp [eqCells] at h; done) | skip
        cases q <;> first | (simp [eqCells] at h; done) | skip
        rename_i x y
        simp only [eqCells] at h
        split at h
        · rename_i r2 h2'
          obtain rfl := Option.some.inj h
          refine ⟨_, _, _, _, _, r2, rfl, rfl, rfl, h2', fun M u v w d hu hv => ?_⟩
          cases rep_str hu; cases rep_str hv
          rcases hk with ⟨_, e⟩ | ⟨_, e⟩ | ⟨hk, _⟩ <;> first | cases e | skip
          refine ⟨by rw [run_equalIn_string w d t _ _ hk, ← beq_toListBytes, beq_mkStr], fun e => ?_⟩
          have : x = y := by simpa using e
          subst this
          cases d <;> simp [Instr.sameBits, beq_mkStr]
        · cases h

/-- What lies in the cells of a struct, or an array. -/
def CR (M : Mem) (cs : List PV) (vs : List Value) : Prop := vs.length = cs.length ∧ ∀ (i : Nat) c v, cs[i]? = some c → vs[i]? = some v → PRep M c v
theorem rep_agg {M : Mem} {cs : List PV} {u : Value} (h : PRep M (.agg cs) u) : ∃ vs : List Value, u = .agg vs.toArray ∧ CR M cs vs := by
  cases h; exact ⟨_, rfl, by assumption, by assumption⟩

theorem eq_items {e : TypeId} {b : BK} (hb : bkT P e = some b) {M : Mem} {cs ds : List PV} {us vs : List Value} (hu : CR M cs us) (hv : CR M ds vs) : ∀ (n k : Nat) (r : Bool) (w : World) (d : Nat), eqCells (List.replicate n b) (cs.drop k) (ds.drop k) = some r →
    (Op.eqItems (d + 1) e 1 us.toArray vs.toArray (List.range' k n)).run P w = .ok r w
  | 0, k, r, w, d, h => by
    simp only [List.replicate] at h
    cases h1 : cs.drop k <;> cases h2 : ds.drop k <;> rw [h1, h2] at h <;> simp [eqCells] at h
    subst h
    simp [Op.eqItems]
  | n + 1, k, r, w, d, h => by
    obtain ⟨p, cs', q, ds', r1, r2, e1, e2, rfl, h2, h3⟩ := eq_cell hb h
    have hp : cs[k]? = some p := by have := List.getElem?_drop (xs := cs) (i := k) (j := 0); rw [e1] at this; simpa using this.symm
    have hq : ds[k]? = some q := by have := List.getElem?_drop (xs := ds) (i := k) (j := 0); rw [e2] at this; simpa using this.symm
    have hkl : k < us.length := by rw [hu.1]; exact (List.getElem?_eq_some_iff.1 hp).1
    have hkl2 : k < vs.length := by rw [hv.1]; exact (List.getElem?_eq_some_iff.1 hq).1
    have h4 := h3 M us[k] vs[k] w d (hu.2 k p _ hp (List.getElem?_eq_getElem hkl)) (hv.2 k q _ hq (List.getElem?_eq_getElem hkl2))
    have e3 : cs.drop (k + 1) = cs' := by rw [← List.drop_drop, e1]; rfl
    have e4 : ds.drop (k + 1) = ds' := by rw [← List.drop_drop, e2]; rfl
    have ih := eq_items hb hu hv n (k + 1) r2 w d (by rw [e3, e4]; exact h2)
    have p1 := run_part_bk hb (xs := us.toArray) (off := k) (v := us[k]) (by simp [hkl]) w
    have p2 := run_part_bk hb (xs := vs.toArray) (off := k) (v := vs[k]) (by simp [hkl2]) w
    simp only [List.range'_succ, Op.eqItems, Sem.run_bind, Nat.mul_one, p1, p2, Result.andThen_ok, h4.1]
    cases r1 with
    | false => simp
    | true => simp only [Bool.not_true, Bool.false_eq_true, if_false, Bool.true_and]; exact ih

theorem bkFs_cons {f : Field} {fs : List Field} {i : Nat} {l : List BK} (h : bkFs P (f :: fs) i = some l) : ∃ b bs, l = b :: bs ∧ f.name ≠ "_" ∧ f.offset = i ∧ bkT P f.type = some b ∧ bkFs P fs (i + 1) = some bs := by
  simp only [bkFs] at h
  cases hc : !(f.name == "_") && Nat.beq f.offset i with
  | false => rw [hc] at h; cases h
  | true =>
    rw [hc] at h
    simp only [cond_true] at h
    simp only [Bool.and_eq_true, Bool.not_eq_true', beq_eq_false_iff_ne] at hc
    split at h
    · rename_i b bs h1 h2
      obtain rfl := Option.some.inj h
      exact ⟨b, bs, rfl, hc.1, Nat.eq_of_beq_eq_true hc.2, h1, h2⟩
    · cases h

theorem eq_fields {M : Mem} {cs ds : List PV} {us vs : List Value} (hu : CR M cs us) (hv : CR M ds vs) : ∀ (fs : List Field) (k : Nat) (l : List BK) (r : Bool) (w : World) (d : Nat), bkFs P fs k = some l → eqCells l (cs.drop k) (ds.drop k) = some r →
    (Op.eqFields (d + 1) us.toArray vs.toArray fs).run P w = .ok r w
  | [], k, l, r, w, d, hl, h => by
    obtain rfl := Option.some.inj hl
    cases h1 : cs.drop k <;> cases h2 : ds.drop k <;> rw [h1, h2] at h <;> simp [eqCells] at h
    subst h
    simp [Op.eqFields]
  | f :: fs, k, l, r, w, d, hl, h => by
    obtain ⟨b, bs, rfl, hn, ho, hb, hbs⟩ := bkFs_cons hl
    obtain ⟨p, cs', q, ds', r1, r2, e1, e2, rfl, h2, h3⟩ := eq_cell hb h
    have hp : cs[k]? = some p := by have := List.getElem?_drop (xs := cs) (i := k) (j := 0); rw [e1] at this; simpa using this.symm
    have hq : ds[k]? = some q := by have := List.getElem?_drop (xs := ds) (i := k) (j := 0); rw [e2] at this; simpa using this.symm
    have hkl : k < us.length := by rw [hu.1]; exact (List.getElem?_eq_some_iff.1 hp).1
    have hkl2 : k < vs.length := by rw [hv.1]; exact (List.getElem?_eq_some_iff.1 hq).1
    have h4 := h3 M us[k] vs[k] w d (hu.2 k p _ hp (List.getElem?_eq_getElem hkl)) (hv.2 k q _ hq (List.getElem?_eq_getElem hkl2))
    have e3 : cs.drop (k + 1) = cs' := by rw [← List.drop_drop, e1]; rfl
    have e4 : ds.drop (k + 1) = ds' := by rw [← List.drop_drop, e2]; rfl
    have ih := eq_fields hu hv fs (k + 1) bs r2 w d hbs (by rw [e3, e4]; exact h2)
    have p1 := run_part_bk hb (xs := us.toArray) (off := k) (v := us[k]) (by simp [hkl]) w
    have p2 := run_part_bk hb (xs := vs.toArray) (off := k) (v := vs[k]) (by simp [hkl2]) w
    simp only [Op.eqFields, ne_eq, hn, not_false_eq_true, if_true, Sem.run_bind, ho, p1, p2, Result.andThen_ok, h4.1]
    cases r1 with
    | false => simp
    | true => simp only [Bool.not_true, Bool.false_eq_true, if_false, Bool.true_and]; exact ih

theorem eqCells_len : ∀ {l : List BK} {cs ds : List PV} {r : Bool}, eqCells l cs ds = some r → cs.length = l.length ∧ ds.length = l.length
  | [], cs, ds, r, h => by cases cs <;> cases ds <;> simp [eqCells] at h; exact ⟨rfl, rfl⟩
  | b :: l, cs, ds, r, h => by
    have : ∃ p cs' q ds' r2, cs = p :: cs' ∧ ds = q :: ds' ∧ eqCells l cs' ds' = some r2 := by
      cases cs with
      | nil => cases b <;> simp [eqCells] at h
      | cons p cs' =>
        cases ds with
        | nil => cases b <;> cases p <;> simp [eqCells] at h
        | cons q ds' =>
          refine ⟨p, cs', q, ds', ?_⟩
          cases b <;> cases p <;> first | (simp [eqCells] at h; done) | skip
          all_goals (cases q <;> first | (simp [eqCells] at h; done) | skip)
          all_goals simp only [eqCells] at h
          · rename_i k x k' y
            cases hk : decide (k = k') with
            | false => rw [hk] at h; cases h
            | true =>
              rw [hk] at h
              simp only [cond_true] at h
              split at h
              · rename_i r2 h2; exact ⟨r2, rfl, rfl, h2⟩
              · cases h
          · split at h
            · rename_i r2 h2; exact ⟨r2, rfl, rfl, h2⟩
            · cases h
          · split at h
            · rename_i r2 h2; exact ⟨r2, rfl, rfl, h2⟩
            · cases h
    obtain ⟨p, cs', q, ds', r2, rfl, rfl, h2⟩ := this
    obtain ⟨g1, g2⟩ := eqCells_len h2
    exact ⟨by simp [g1], by simp [g2]⟩

theorem aggT_eq {t : TypeId} {l : List BK} (h : aggT P t = some l) : (∃ fs, P.underlying t = some (.struct fs) ∧ P.stoodInHeld t = false ∧ bkFs P fs.toList 0 = some l) ∨ ∃ n e b, P.underlying t = some (.array n e) ∧ bkT P e = some b ∧ l = List.replicate n b := by
  unfold aggT at h
  split at h
  · rename_i fs hfs
    cases hs : P.stoodInHeld t with
    | true => rw [hs] at h; cases h
    | false => rw [hs] at h; exact .inl ⟨fs, hfs, rfl, h⟩
  · rename_i n e hn
    split at h
    · rename_i b hb
      exact .inr ⟨n, e, b, hn, hb, (Option.some.inj h).symm⟩
    · cases h
  · cases h

theorem run_equal_agg {t : TypeId} {l : List BK} (ht : aggT P t = some l) {M : Mem} {cs ds : List PV} {u v : Value} (hu : PRep M (.agg cs) u) (hv : PRep M (.agg ds) v) {r : Bool} (h : eqCells l cs ds = some r) (w : World) : (Op.equal t u v).run P w = .ok r w := by
  obtain ⟨us, rfl, cu⟩ := rep_agg hu
  obtain ⟨vs, rfl, cv⟩ := rep_agg hv
  show (Op.equalIn (9999 + 1) t _ _).run P w = _
  rcases aggT_eq ht with ⟨fs, h1, h2, h3⟩ | ⟨n, e, b, h1, h2, rfl⟩
  · have hf : P.fieldsOf t = fs := by simp [Program.fieldsOf, h1]
    rw [run_equalIn_struct w 9999 t _ _ (by rw [hf]; exact h1) h2, hf]
    exact eq_fields cu cv fs.toList 0 l r w 9998 h3 (by simpa using h)
  · obtain ⟨c1, i, c2⟩ := cellsOf_bk h2
    rw [run_equalIn_array w 9999 _ _ h1 c2, c1, List.range_eq_range']
    exact eq_items h2 cu cv n 0 r w 9998 (by simpa using h)

theorem bkFs_ok : ∀ (fl : List Field) (k : Nat) (l : List BK), bkFs P fl k = some l → ∀ f, f ∈ fl → ∃ b, bkT P f.type = some b ∧ f.offset < k + l.length
  | [], k, l, h, f, hf => by cases hf
  | g :: fl, k, l, h, f, hf => by
    obtain ⟨b, bs, rfl, hn, ho, hb, hbs⟩ := bkFs_cons h
    rcases List.mem_cons.1 hf with rfl | hf
    · exact ⟨b, hb, by simp; omega⟩
    · obtain ⟨b', h1, h2⟩ := bkFs_ok fl (k + 1) bs hbs f hf
      exact ⟨b', h1, by simp; omega⟩

theorem run_guard_agg {t : TypeId} {l : List BK} (ht : aggT P t = some l) {us vs : List Value} (hu : us.length = l.length) (hv : vs.length = l.length) (w : World) (d : Nat) : (Op.eqGuardIn (d + 2) t (.agg us.toArray) (.agg vs.toArray)).run P w = .ok false w := by
  rcases aggT_eq ht with ⟨fs, h1, h2, h3⟩ | ⟨n, e, b, h1, h2, rfl⟩
  · rw [Op.eqGuardIn]
    simp only [Sem.run_bind, run_underlying h1, Result.andThen_ok]
    rw [← Array.forIn_toList]
    have hok := bkFs_ok fs.toList 0 l h3
    generalize fs.toList = fl at hok
    clear h1 h3 ht h2
    induction fl with
    | nil => simp
    | cons f fl ih =>
      obtain ⟨b, hb, hlt⟩ := hok f (by simp)
      have q1 : f.offset < us.length := by omega
      have q2 : f.offset < vs.length := by omega
      have p1 := run_part_bk hb (xs := us.toArray) (off := f.offset) (v := us[f.offset]) (by simp [q1]) w
      have p2 := run_part_bk hb (xs := vs.toArray) (off := f.offset) (v := vs[f.offset]) (by simp [q2]) w
      have ih' := ih fun f hf => hok f (by simp [hf])
      simp only [List.forIn_cons, Sem.run_bind, Sem.run_ite]
      split
      · simp only [p1, p2, Result.andThen_ok, guard_bk hb, Bool.false_eq_true, if_false, Sem.run_pure]
        exact ih'
      · simp only [Sem.run_pure, Result.andThen_ok]
        exact ih'
  · have hn : us.length = n := by simpa using hu
    have hn2 : vs.length = n := by simpa using hv
    rw [Op.eqGuardIn]
    simp only [Sem.run_bind, run_underlying h1, Result.andThen_ok, run_size_bk h2]
    simp only [Std.Legacy.Range.forIn_eq_forIn_range', Std.Legacy.Range.size, Nat.sub_zero, Nat.add_one_sub_one, Nat.div_one]
    have hok : ∀ i, i ∈ List.range' 0 n → i < n := fun i hi => by simp at hi; exact hi
    generalize List.range' 0 n = il at hok
    induction il with
    | nil => simp
    | cons i il ih =>
      have hi := hok i (by simp)
      have p1 := run_part_bk h2 (xs := us.toArray) (off := i * 1) (v := us[i]'(by omega)) (by simp [hn, hi]) w
      have p2 := run_part_bk h2 (xs := vs.toArray) (off := i * 1) (v := vs[i]'(by omega)) (by simp [hn2, hi]) w
      have ih' := ih fun i hi => hok i (by simp [hi])
      simp only [List.forIn_cons, Sem.run_bind, p1, p2, Result.andThen_ok, guard_bk h2, Bool.false_eq_true, if_false, Sem.run_pure]
      exact ih'

theorem run_eqGuard_agg {op : BinOp} {t : TypeId} {l : List BK} {y z : Operand} (ht : aggT P t = some l) {us vs : List Value} (hu : us.length = l.length) (hv : vs.length = l.length) (w : World) : (eqGuard op t y z (.agg us.toArray) (.agg vs.toArray)).run P w = .ok () w := by
  have hg := run_guard_agg ht hu hv w 9998
  unfold eqGuard
  cases op <;> simp [Op.maxDepth, hg]
  all_goals (cases P.eqGuardType P.depth t <;> simp [hg])

theorem run_check_agg {t : TypeId} {l : List BK} (ht : aggT P t = some l) {us : List Value} (hu : us.length = l.length) (em : Bool) (w : World) (d : Nat) : (Instr.checkKey em (d + 2) t (.agg us.toArray)).run P w = .ok () w := by
  rcases aggT_eq ht with ⟨fs, h1, h2, h3⟩ | ⟨n, e, b, h1, h2, rfl⟩
  · rw [Instr.checkKey]
    simp only [Sem.run_bind, run_underlying h1, Result.andThen_ok]
    rw [← Array.forIn_toList]
    have hok := bkFs_ok fs.toList 0 l h3
    generalize fs.toList = fl at hok
    clear h1 h3 ht h2
    induction fl with
    | nil => simp
    | cons f fl ih =>
      obtain ⟨b, hb, hlt⟩ := hok f (by simp)
      have q1 : f.offset < us.length := by omega
      have p1 := run_part_bk hb (xs := us.toArray) (off := f.offset) (v := us[f.offset]) (by simp [q1]) w
      have ih' := ih fun f hf => hok f (by simp [hf])
      simp only [List.forIn_cons, Sem.run_bind, Sem.run_ite]
      split
      · simp only [p1, Sem.run_bind, Result.andThen_ok, check_bk hb, Sem.run_pure]
        exact ih'
      · simp only [Sem.run_pure, Result.andThen_ok]
        exact ih'
  · have hn : us.length = n := by simpa using hu
    rw [Instr.checkKey]
    simp only [Sem.run_bind, run_underlying h1, Result.andThen_ok]
    simp only [Std.Legacy.Range.forIn_eq_forIn_range', Std.Legacy.Range.size, Nat.sub_zero, Nat.add_one_sub_one, Nat.div_one]
    have hok : ∀ i, i ∈ List.range' 0 n → i < n := fun i hi => by simp at hi; exact hi
    generalize List.range' 0 n = il at hok
    induction il with
    | nil => simp
    | cons i il ih =>
      have hi := hok i (by simp)
      have p1 := run_part_bk h2 (xs := us.toArray) (off := i * 1) (v := us[i]'(by omega)) (by simp [hn, hi]) w
      have ih' := ih fun i hi => hok i (by simp [hi])
      simp only [List.forIn_cons, Sem.run_bind, run_size_bk h2, p1, Result.andThen_ok, check_bk h2, Sem.run_pure]
      exact ih'

theorem eqOp_eq {op : BinOp} {b r : Bool} (h : eqOp op b = some r) : op = .eql ∧ r = b ∨ op = .neq ∧ r = !b := by
  cases op <;> simp only [eqOp] at h <;> first | (cases h; done) | skip
  · exact .inl ⟨rfl, (Option.some.inj h).symm⟩
  · exact .inr ⟨rfl, (Option.some.inj h).symm⟩

theorem s_bin_agg {av : Av} {ty : TypeId} {op : BinOp} {t t' : TypeId} {y z : Operand} {cs ds : List PV} {l : List BK} {b r : Bool} (hy : av y = some (.pv (.agg cs))) (hz : av z = some (.pv (.agg ds))) (ht : aggT P t = some l) (h : eqCells l cs ds = some b) (ho : eqOp op b = some r) :
    Sound1 P (.binOp op t y z t') ty av (.pv (.bool r)) := by
  refine .val fun G s a w o _ hA hop _ => ?_
  have hu : PRep G.M (.agg cs) (a.eval y) := hA y _ hy
  have hv : PRep G.M (.agg ds) (a.eval z) := hA z _ hz
  have he := run_equal_agg ht hu hv h w
  obtain ⟨us, e1, c1⟩ := rep_agg hu
  obtain ⟨vs, e2, c2⟩ := rep_agg hv
  obtain ⟨l1, l2⟩ := eqCells_len h
  have hg := run_eqGuard_agg (op := op) (y := y) (z := z) ht (c1.1.trans l1) (c2.1.trans l2) w
  rw [← e1, ← e2] at hg
  refine ⟨_, execOp_bin hop w hg (u := .bool r) ?_, PRep.bool r⟩
  rw [e1, e2] at he ⊢
  rcases eqOp_eq ho with ⟨rfl, rfl⟩ | ⟨rfl, rfl⟩
  · simp [binOp, he]
  · simp [binOp, he]
end
end Go.AL

/- Operations that depend on their operands alone: structs, slices, strings, tuples, closures. -/
set_option linter.unusedVariables false
set_option linter.unusedSimpArgs false
namespace Go.AL
open Go.RowKit

/-- Cells, one by one. -/
def CRel (M : Mem) (ps : List PV) (vs : List Value) : Prop := vs.length = ps.length ∧ ∀ (i : Nat) p v, ps[i]? = some p → vs[i]? = some v → PRep M p v ∧ p.one = true

theorem CRel.set {M : Mem} {ps : List PV} {vs : List Value} (h : CRel M ps vs) (k : Nat) {p : PV} {v : Value} (hp : PRep M p v) (ho : p.one = true) : CRel M (ps.set k p) (vs.set k v) := by
  refine ⟨by simpa using h.1, fun i q u h1 h2 => ?_⟩
  by_cases hk : k = i
  · subst hk
    by_cases hl : k < ps.length
    · rw [List.getElem?_set_self hl] at h1
      rw [List.getElem?_set_self (by rw [h.1]; exact hl)] at h2
      obtain rfl := Option.some.inj h1
      obtain rfl := Option.some.inj h2
      exact ⟨hp, ho⟩
    · rw [List.getElem?_eq_none (by simpa using hl)] at h1
      cases h1
  · rw [List.getElem?_set_ne hk] at h1 h2
    exact h.2 i q u h1 h2

theorem CRel.agg {M : Mem} {ps : List PV} {vs : List Value} (h : CRel M ps vs) : PRep M (.agg ps) (.agg vs.toArray) :=
  .agg ps vs h.1 (fun y hy => by
    obtain ⟨i, hi, rfl⟩ := List.mem_iff_getElem.1 hy
    have hi2 : i < vs.length := by rw [h.1]; exact hi
    exact (h.2 i ps[i] vs[i] (List.getElem?_eq_getElem hi) (List.getElem?_eq_getElem hi2)).2) fun i c v h1 h2 => (h.2 i c v h1 h2).1

theorem CRel.setAt {M : Mem} : ∀ {qs : List PV} {us : List Value} {ps : List PV} {vs : List Value} (off : Nat), CRel M ps vs → CRel M qs us → CRel M (setAt ps off qs) (setAt vs off us)
  | [], us, ps, vs, off, h, k => by
    have : us = [] := List.eq_nil_of_length_eq_zero k.1
    subst this; exact h
  | q :: qs, us, ps, vs, off, h, k => by
    cases us with
    | nil => have := k.1; simp at this
    | cons u us =>
      obtain ⟨g1, g2⟩ := k.2 0 q u rfl rfl
      exact CRel.setAt (off + 1) (h.set off g1 g2) ⟨by have := k.1; simpa using this, fun i p v h1 h2 => k.2 (i + 1) p v (by simpa using h1) (by simpa using h2)⟩

theorem foldl_setAt (us : List Value) : ∀ (k off : Nat) (cells : Array Value), ((us.zipIdx k).foldl (fun (cs : Array Value) (x : Value × Nat) => cs.setIfInBounds (off + x.2) x.1) cells).toList = setAt cells.toList (off + k) us := by
  induction us with
  | nil => intro k off cells; rfl
  | cons u us ih =>
    intro k off cells
    simp only [List.zipIdx_cons, List.foldl_cons, setAt]
    rw [ih]
    simp [Nat.add_assoc]

theorem length_setAt {α : Type} (us : List α) : ∀ (cs : List α) (off : Nat), (setAt cs off us).length = cs.length := by
  induction us with
  | nil => intro cs off; rfl
  | cons u us ih => intro cs off; simp [setAt, ih]

/-- What a value that isn't several has for cells. -/
theorem cells_rel {M : Mem} {p : PV} {v : Value} (h : PRep M p v) (hp : ∀ cs, p ≠ .tup cs) : CRel M p.cells v.cells.toList := by
  obtain ⟨h1, h2, h3⟩ := h.cells hp
  exact ⟨h1, fun i c u g1 g2 => ⟨h3 i c u g1 g2, h2 c (List.mem_of_getElem? g1)⟩⟩

/-- Parts of a struct, or of a slice's literal. -/
def PtsRel (M : Mem) : List (Nat × PV) → List (Nat × Value) → Prop
  | [], [] => True
  | (i, p) :: l, (j, v) :: k => i = j ∧ PRep M p v ∧ (∀ cs, p ≠ .tup cs) ∧ PtsRel M l k
  | _, _ => False

theorem fill_rel {M : Mem} {place place' : Nat → Option (Nat × Nat)} (hp : ∀ i, place i = place' i) : ∀ {pts : List (Nat × PV)} {vts : List (Nat × Value)} {ps : List PV} {cells : Array Value} {out : List PV},
    PtsRel M pts vts → CRel M ps cells.toList → fillP place ps pts = some out → ∃ res, Instr.fill place' cells vts = some res ∧ CRel M out res.toList
  | [], vts, ps, cells, out, hr, hc, h => by
    cases vts with
    | nil => obtain rfl := Option.some.inj h; exact ⟨cells, rfl, hc⟩
    | cons v l => exact hr.elim
  | (i, p) :: pts, vts, ps, cells, out, hr, hc, h => by
    cases vts with
    | nil => exact hr.elim
    | cons jv vts =>
      obtain ⟨j, v⟩ := jv
      obtain ⟨rfl, h1, h2, h3⟩ := hr
      simp only [fillP] at h
      simp only [Instr.fill, ← hp]
      cases hpl : place i with
      | none => rw [hpl] at h; cases h
      | some os =>
        obtain ⟨off, size⟩ := os
        rw [hpl] at h
        simp only at h
        have hcr := cells_rel h1 h2
        have hl : v.cells.size = p.cells.length := by have := hcr.1; simpa using this
        have hl2 : cells.size = ps.length := by have := hc.1; simpa using this
        cases hb : (Nat.beq p.cells.length size && Nat.ble (off + p.cells.length) ps.length) with
        | false => rw [hb] at h; cases h
        | true =>
          rw [hb] at h
          simp only [cond_true] at h
          simp only [Bool.and_eq_true] at hb
          have e1 := beq_eq hb.1
          have e2 := Nat.le_of_ble_eq_true hb.2
          have hif : (decide (v.cells.size ≠ size) || decide (off + v.cells.size > cells.size)) = false := by
            rw [hl, hl2]; simp; omega
          simp only [hif, Bool.false_eq_true, if_false]
          refine fill_rel hp h3 ?_ h
          have e : (Array.foldl (fun (cs : Array Value) (x : Value × Nat) => match x with | (c, j) => cs.setIfInBounds (off + j) c) cells v.cells.zipIdx).toList = setAt cells.toList off v.cells.toList := by
            rw [← Array.foldl_toList, Array.toList_zipIdx]
            exact foldl_setAt v.cells.toList 0 off cells
          rw [e]
          exact CRel.setAt off hc hcr

section
variable {P : Program} {av : Av} {ty : TypeId}

theorem pts_rel {G : Gh} {s : St} {a : Act} (hA : Avs av G s a) : ∀ {l : List (Nat × Operand)} {ps : List (Nat × PV)}, partsPV av l = some ps → PtsRel G.M ps (l.map fun x => (x.1, a.eval x.2))
  | [], ps, h => by obtain rfl := Option.some.inj h; trivial
  | (i, y) :: l, ps, h => by
    simp only [partsPV] at h
    split at h
    · rename_i b ps' hb hps
      split at h
      · cases h
      · rename_i p hn hp
        obtain rfl := Option.some.inj h
        exact ⟨rfl, toPV_rel (hA y b hb) hp, hn, pts_rel hA hps⟩
      · cases h
    · cases h

theorem run_mapM {α β : Type} (w : World) (f : α → Sem β) (g : α → β) : ∀ (l : List α), (∀ x, x ∈ l → (f x).run P w = .ok (g x) w) → (l.mapM f).run P w = .ok (l.map g) w
  | [], _ => by simp
  | x :: l, h => by
    rw [List.mapM_cons]
    simp [h x (by simp), run_mapM w f g l (fun y hy => h y (by simp [hy]))]

theorem run_sizeOf' {t : TypeId} {i : TypeInfo} (h : P.types[t]? = some i) (w : World) : (sizeOf t).run P w = .ok i.size w := by
  simp [sizeOf, typeInfo, info_of h]

theorem placesL_eq : ∀ {l : List Field} {pl : List (Nat × Nat)}, placesL P l = some pl → pl = l.map (fun f => (f.offset, sizeT P f.type)) ∧ ∀ f, f ∈ l → ∃ i, P.types[f.type]? = some i
  | [], pl, h => by obtain rfl := Option.some.inj h; exact ⟨rfl, by simp⟩
  | f :: l, pl, h => by
    simp only [placesL] at h
    split at h
    · rename_i i ps hi hps
      obtain rfl := Option.some.inj h
      obtain ⟨g1, g2⟩ := placesL_eq hps
      refine ⟨?_, fun f' hf' => ?_⟩
      · rw [List.map_cons, ← g1]
        simp only [sizeT, hi]
      · rcases List.mem_cons.1 hf' with rfl | hf'
        · exact ⟨i, hi⟩
        · exact g2 f' hf'
    · cases h

theorem run_places (w : World) {fs : Array Field} {pl : List (Nat × Nat)} (h : placesL P fs.toList = some pl) :
    (fs.mapM fun f => (Prod.mk f.offset <$> sizeOf f.type : Sem (Nat × Nat))).run P w = .ok pl.toArray w := by
  obtain ⟨g1, g2⟩ := placesL_eq h
  rw [Array.mapM_eq_mapM_toList, Sem.run_map, run_mapM w _ (fun f => (f.offset, sizeT P f.type))]
  · rw [← g1]; rfl
  · intro f hf
    obtain ⟨i, hi⟩ := g2 f hf
    simp [run_sizeOf' hi, sizeT, hi]

theorem run_zero (hT : TOk P) {t : TypeId} {ps : List PV} (h : zeroCells P t = some ps) (w : World) : ∃ i z, P.types[t]? = some i ∧ i.zero = some z ∧ (zeroValue t).run P w = .ok z w ∧ ofCells z.cells.toList = some ps ∧ z.cells.size = i.size := by
  unfold zeroCells at h
  split at h
  · rename_i i hi
    split at h
    · rename_i z hz
      exact ⟨i, z, hi, hz, by simp [zeroValue, typeInfo, info_of hi, hz], h, hT.size t i z hi hz⟩
    · cases h
  · cases h

theorem CRel.of_cells {M : Mem} {vs : List Value} {ps : List PV} (h : ofCells vs = some ps) : CRel M ps vs := by
  obtain ⟨g1, g2⟩ := ofCells_rep (M := M) h
  exact ⟨g1.symm, fun i p v h1 h2 => ⟨(g2 i p v h1 h2).1, (g2 i p v h1 h2).2.1⟩⟩
theorem CRel.weak {M : Mem} {vs : List Value} {ps : List PV} (h : CRel M ps vs) : CRel M (ps.map PV.weak) vs := by
  refine ⟨by simpa using h.1, fun i p v h1 h2 => ?_⟩
  rw [List.getElem?_map] at h1
  cases hq : ps[i]? with
  | none => rw [hq] at h1; cases h1
  | some q =>
    rw [hq] at h1
    obtain rfl := Option.some.inj h1
    exact ⟨(h.2 i q v hq h2).1.weak, by rw [PV.one_weak]; exact (h.2 i q v hq h2).2⟩

theorem s_build (hT : TOk P) {t : TypeId} {parts : Array (Nat × Operand)} {pl : Nat → Option (Nat × Nat)} {z : List PV} {ps : List (Nat × PV)} {cs : List PV} (h1 : placesF P t = some pl) (h2 : zeroCells P t = some z)
    (h3 : partsPV av parts.toList = some ps) (h4 : fillP pl (z.map PV.weak) ps = some cs) : Sound1 P (.build t parts) ty av (.pv (.agg cs)) := by
  refine .val fun G s a w o _ hA ho _ => ?_
  obtain ⟨i, zv, hi, hz, hrun, hof, hsz⟩ := run_zero hT h2 w
  unfold placesF at h1
  split at h1
  · rename_i n e hne
    split at h1
    · rename_i ie hie
      obtain rfl := Option.some.inj h1
      have hpr := pts_rel hA h3
      have hm : (parts.map fun x => (x.1, a.eval x.2)).toList = parts.toList.map fun x => (x.1, a.eval x.2) := by simp
      obtain ⟨res, g1, g2⟩ := fill_rel (M := G.M) (place' := fun k => some (k * ie.size, ie.size)) (fun i => rfl) hpr (cells := zv.cells) (CRel.of_cells hof).weak h4
      refine ⟨.agg res, ?_, ?_⟩
      · simp only [execOp, ho, Instr.build]
        simp [hrun, run_underlying hne, run_sizeOf' hie, hm]
        rw [g1]
        rfl
      · show PRep _ _ _
        have := g2.agg
        simpa using this
    · cases h1
  split at h1
  rotate_left
  · cases h1
  rename_i pl0 hpl
  obtain rfl := Option.some.inj h1
  replace h1 := hpl
  unfold fieldPlaces at h1
  split at h1
  · rename_i fs hfs
    have hpr := pts_rel hA h3
    have hm : (parts.map fun x => (x.1, a.eval x.2)).toList = parts.toList.map fun x => (x.1, a.eval x.2) := by simp
    obtain ⟨res, g1, g2⟩ := fill_rel (M := G.M) (place' := (pl0.toArray[·]?)) (fun i => by simp) hpr (cells := zv.cells) (CRel.of_cells hof).weak h4
    refine ⟨.agg res, ?_, ?_⟩
    · simp only [execOp, ho, Instr.build]
      simp [hrun, run_underlying hfs, run_places w h1, hm]
      simp at g1
      simp [g1]
    · show PRep _ _ _
      have := g2.agg
      simpa using this
  · cases h1
end
end Go.AL

/- New memory: a row that never changes, a box, a vector, a builder. -/
set_option linter.unusedVariables false
set_option linter.unusedSimpArgs false
namespace Go.AL
open Go.RowKit

def flat (xs : List PV) : List PV := xs.flatMap PV.cells

theorem flat_get {sz : Nat} : ∀ {xs : List PV}, (∀ x, x ∈ xs → x.cells.length = sz) → ∀ {j k : Nat} {x y : PV}, xs[j]? = some x → x.cells[k]? = some y → (flat xs)[j * sz + k]? = some y
  | [], _, j, k, x, y, h, _ => by simp at h
  | a :: xs, hs, j, k, x, y, h1, h2 => by
    have ha := hs a (by simp)
    cases j with
    | zero =>
      simp at h1; subst h1
      have hk : k < a.cells.length := (List.getElem?_eq_some_iff.1 h2).1
      simp only [flat, List.flatMap_cons, Nat.zero_mul, Nat.zero_add]
      rw [List.getElem?_append_left hk]; exact h2
    | succ j =>
      simp only [List.getElem?_cons_succ] at h1
      simp only [flat, List.flatMap_cons]
      rw [List.getElem?_append_right (by rw [ha, Nat.succ_mul]; omega), ha, show (j + 1) * sz + k - sz = j * sz + k from by rw [Nat.succ_mul]; omega]
      exact flat_get (fun z hz => hs z (by simp [hz])) h1 h2

theorem length_flat {sz : Nat} : ∀ {xs : List PV}, (∀ x, x ∈ xs → x.cells.length = sz) → (flat xs).length = xs.length * sz
  | [], _ => by simp [flat]
  | a :: xs, hs => by
    have := length_flat (xs := xs) (fun z hz => hs z (by simp [hz]))
    simp only [flat, List.flatMap_cons, List.length_append, List.length_cons] at this ⊢
    rw [hs a (by simp), this, Nat.succ_mul]; omega

theorem CRel.one {M : Mem} {ps : List PV} {vs : List Value} (h : CRel M ps vs) {i : Nat} {v : Value} (hi : i < ps.length) (hv : vs[i]? = some v) : v.oneCell' = true := by
  obtain ⟨g1, g2⟩ := h.2 i ps[i] v (List.getElem?_eq_getElem hi) hv
  exact g1.one g2

section
variable {F : Fr} {w0 : World} {M0 : Mem} {G : Gh} {s : St} {w : World}

theorem heap_alloc_lt (w : World) (ob : Obj) {k : Nat} (h : k < w.heap.size) : (w.alloc ob).heap[k]? = w.heap[k]? := by
  show (w.heap.push ob)[k]? = _
  rw [Array.getElem?_push, if_neg (by omega)]

theorem M_lt (h : SRel F w0 M0 G s w) {a : Addr} {v : Value} (hM : G.M a = some v) : a.block < w.heap.size := World.block_lt_of_cell? w a (h.agree a v hM)

theorem SRel.alloc (h : SRel F w0 M0 G s w) (ob : Obj) : SRel F w0 M0 G s (w.alloc ob) where
  os := h.os
  tape := h.tape
  output := h.output
  size := by have := h.size; simp; omega
  old k hk hF := by rw [heap_alloc_lt w ob (by have := h.size; omega)]; exact h.old k hk hF
  agree a v hM := by rw [World.cell?_alloc_lt _ _ _ (M_lt h hM)]; exact h.agree a v hM
  base := h.base
  lay := h.lay
  newM := h.newM
  own b hb := by have := h.own b hb; exact ⟨by simp; omega, this.2⟩
  ownM := h.ownM
  bx i z cs b h1 h2 := by
    obtain ⟨q1, q2, q3, o, q4, q5⟩ := h.bx i z cs b h1 h2
    exact ⟨q1, by simp; omega, q3, o, by rw [heap_alloc_lt w ob q2]; exact q4, q5⟩
  vc i ver sz xs h1 := by
    obtain ⟨q0, q1, q2⟩ := h.vc i ver sz xs h1
    refine ⟨q0, q1, ?_⟩
    rcases q2 with q2 | ⟨b, o, vs, T, g1, g2, g3, g4⟩
    · exact .inl q2
    · exact .inr ⟨b, o, vs, T, g1, g2, by rw [heap_alloc_lt w ob (h.own b (by rw [g2]; simp)).1]; exact g3, g4⟩
  tp i e h1 := by
    obtain ⟨q0, q2⟩ := h.tp i e h1
    refine ⟨q0, ?_⟩
    rcases q2 with q2 | ⟨b, o, vs, T, g1, g2, g3, g4⟩
    · exact .inl q2
    · exact .inr ⟨b, o, vs, T, g1, g2, by rw [heap_alloc_lt w ob (h.own b (by rw [g2]; simp)).1]; exact g3, g4⟩
  rt := h.rt
  rv := h.rv

theorem heap_alloc_new' (w : World) (ob : Obj) : (w.alloc ob).heap[w.heap.size]? = some ob := by
  show (w.heap.push ob)[w.heap.size]? = _
  simp

/-- A new row: its first cells never change. 'tip': whose tail it has, if anyone's. -/
theorem SRel.newRow (h : SRel F w0 M0 G s w) {xs : List PV} {sz : Nat} (hsz : 0 < sz) (hs : ∀ x, x ∈ xs → x.cells.length = sz) {vs : Array Value} (T : TypeId)
    (hle : (flat xs).length ≤ vs.size) (hc : ∀ (i : Nat) p v, (flat xs)[i]? = some p → vs[i]? = some v → PRep G.M p v ∧ p.one = true) (cap : Nat) (hcap : xs.length ≤ cap) :
    ∃ M', G.M.le M' ∧ (∀ a v, M' a = some v → G.M a = some v ∨ (a.block = w.heap.size ∧ a.off < xs.length * sz)) ∧
      (∀ a v, M' a = some v → (w.alloc (.cells vs T)).cell? a = some v) ∧ PRep M' (.lst xs) (.slice (some ⟨w.heap.size, 0, none⟩) xs.length cap) := by
  let M' : Mem := fun a => if a.block = w.heap.size ∧ a.spot = none ∧ a.off < (flat xs).length then vs[a.off]? else G.M a
  have hM : G.M.le M' := fun a v e => by
    have := M_lt h e
    simp only [M']
    rw [if_neg (by omega)]; exact e
  refine ⟨M', hM, fun a v e => ?_, fun a v e => ?_, ?_⟩
  · simp only [M'] at e
    split at e
    · rename_i hcnd; exact .inr ⟨hcnd.1, by rw [← length_flat hs]; exact hcnd.2.2⟩
    · exact .inl e
  · simp only [M'] at e
    split at e
    · rename_i hcnd
      obtain ⟨b, off, spot⟩ := a
      obtain ⟨rfl, rfl, h3⟩ := hcnd
      simpa using e
    · rw [World.cell?_alloc_lt _ _ _ (M_lt h e)]; exact h.agree a v e
  · have hget : ∀ {i : Nat} {y : PV}, (flat xs)[i]? = some y → M' ⟨w.heap.size, i, none⟩ = some (vs.getD i undef) ∧ PRep M' y (vs.getD i undef) := by
      intro i y hy
      have hi : i < (flat xs).length := (List.getElem?_eq_some_iff.1 hy).1
      have hv : vs[i]? = some (vs.getD i undef) := by simp [Array.getD, show i < vs.size by omega]
      refine ⟨?_, (hc i y _ hy hv).1.mono hM⟩
      show (if w.heap.size = w.heap.size ∧ (none : Option Nat) = none ∧ i < (flat xs).length then vs[i]? else _) = _
      rw [if_pos ⟨rfl, rfl, hi⟩]; exact hv
    refine .lst xs _ cap sz (fun j k => vs.getD (j * sz + k) undef) hsz hcap hs ?_ (by simp) ?_ ?_
    · intro x hx y hy
      obtain ⟨j, hj, rfl⟩ := List.mem_iff_getElem.1 hx
      obtain ⟨k, hk, rfl⟩ := List.mem_iff_getElem.1 hy
      have := flat_get hs (List.getElem?_eq_getElem hj) (List.getElem?_eq_getElem hk)
      have hi : j * sz + k < (flat xs).length := (List.getElem?_eq_some_iff.1 this).1
      exact (hc _ _ vs[j * sz + k] this (Array.getElem?_eq_getElem (by omega))).2
    · intro ad had j x k y h1 h2
      obtain rfl := Option.some.inj had
      rw [Addr.add_lit, Nat.zero_add]
      exact (hget (flat_get hs h1 h2)).1
    · intro j x k y h1 h2
      exact (hget (flat_get hs h1 h2)).2

/-- It is nobody's: plain memory. -/
theorem SRel.newPlain (h : SRel F w0 M0 G s w) {xs : List PV} {sz : Nat} (hsz : 0 < sz) (hs : ∀ x, x ∈ xs → x.cells.length = sz) {vs : Array Value} (T : TypeId)
    (hle : (flat xs).length ≤ vs.size) (hc : ∀ (i : Nat) p v, (flat xs)[i]? = some p → vs[i]? = some v → PRep G.M p v ∧ p.one = true) (cap : Nat) (hcap : xs.length ≤ cap) :
    ∃ G', SRel F w0 M0 G' s (w.alloc (.cells vs T)) ∧ Ext G s G' s ∧ PRep G'.M (.lst xs) (.slice (some ⟨w.heap.size, 0, none⟩) xs.length cap) := by
  obtain ⟨M', g1, g2, g3, g4⟩ := h.newRow hsz hs T hle hc cap hcap
  have ha := h.alloc (.cells vs T)
  have he : Ext G s { G with M := M' } s := ⟨g1, Nat.le_refl _, Nat.le_refl _, Nat.le_refl _, fun _ _ _ h => h, fun i _ cur xs h => ⟨cur, xs, h, Nat.le_refl _, fun _ => ⟨rfl, rfl⟩⟩, fun i _ cur h => ⟨cur, h, Nat.le_refl _, fun _ => rfl⟩⟩
  refine ⟨{ G with M := M' }, ⟨ha.os, ha.tape, ha.output, ha.size, ha.old, g3, Mem.le_trans h.base g1, h.lay, ?_, ha.own, ?_, ?_, ?_, ha.tp, ha.rt, ha.rv⟩, he, g4⟩
  · intro a v e
    rcases g2 a v e with e | ⟨e, _⟩
    · exact h.newM a v e
    · exact .inr (.inl (by rw [e]; exact h.size))
  · intro a v e
    rcases g2 a v e with e | ⟨e, _⟩
    · exact h.ownM a v e
    · left
      rw [e]
      cases ho : G.own w.heap.size with
      | free => rfl
      | _ => have := (h.own w.heap.size (by rw [ho]; simp)).1; omega
  · intro i z cs b h1 h2
    obtain ⟨q1, q2, q3, us, q4, q5⟩ := ha.bx i z cs b h1 h2
    exact ⟨q1, q2, q3, us, q4, q5.ext he⟩
  · intro i ver sz ys h1
    obtain ⟨q0, q1, q2⟩ := ha.vc i ver sz ys h1
    refine ⟨q0, q1, ?_⟩
    rcases q2 with q2 | ⟨b, o, us, T', k1, k2, k3, k4, k5, k6⟩
    · exact .inl q2
    · exact .inr ⟨b, o, us, T', k1, k2, k3, k4, k5, fun j x k y e1 e2 => by obtain ⟨v, e3, e4⟩ := k6 j x k y e1 e2; exact ⟨v, e3, e4.mono g1⟩⟩
end
end Go.AL

/- Operations that depend on their operands alone: slices, strings, tuples, closures. -/
set_option linter.unusedVariables false
set_option linter.unusedSimpArgs false
namespace Go.AL
open Go.RowKit

theorem setAt_append_right {α : Type} (us : List α) : ∀ (a b : List α) (off : Nat), a.length ≤ off → setAt (a ++ b) off us = a ++ setAt b (off - a.length) us := by
  induction us with
  | nil => intro a b off h; rfl
  | cons u us ih =>
    intro a b off h
    simp only [setAt]
    rw [List.set_append_right _ _ h, ih a _ (off + 1) (by omega), show off + 1 - a.length = off - a.length + 1 by omega]

theorem setAt_head {α : Type} (us : List α) : ∀ (a b : List α), us.length = a.length → setAt (a ++ b) 0 us = us ++ b := by
  have : ∀ (us pre a b : List α), us.length = a.length → setAt (pre ++ (a ++ b)) pre.length us = pre ++ (us ++ b) := by
    intro us
    induction us with
    | nil => intro pre a b h; have : a = [] := List.eq_nil_of_length_eq_zero h.symm; subst this; rfl
    | cons u us ih =>
      intro pre a b h
      cases a with
      | nil => simp at h
      | cons x a =>
        simp only [setAt]
        have e : (pre ++ (x :: a ++ b)).set pre.length u = (pre ++ [u]) ++ (a ++ b) := by
          rw [List.set_append_right _ _ (Nat.le_refl _)]; simp
        rw [e]
        have := ih (pre ++ [u]) a b (by simpa using h)
        simpa using this
  intro a b h
  simpa using this us [] a b h

theorem flat_set {sz : Nat} : ∀ {xs : List PV}, (∀ x, x ∈ xs → x.cells.length = sz) → ∀ {i : Nat} {p : PV}, p.cells.length = sz → i < xs.length → setAt (flat xs) (i * sz) p.cells = flat (xs.set i p)
  | [], _, i, p, _, h => by simp at h
  | a :: xs, hs, i, p, hp, h => by
    have ha := hs a (by simp)
    cases i with
    | zero =>
      simp only [flat, List.flatMap_cons, Nat.zero_mul, List.set_cons_zero]
      exact setAt_head _ _ _ (by rw [hp, ha])
    | succ i =>
      simp only [flat, List.flatMap_cons, List.set_cons_succ]
      rw [setAt_append_right _ _ _ _ (by rw [ha, Nat.succ_mul]; omega), ha, show (i + 1) * sz - sz = i * sz from by rw [Nat.succ_mul]; omega]
      congr 1
      exact flat_set (fun z hz => hs z (by simp [hz])) hp (by simpa using h)

theorem fillE_fillP {sz : Nat} : ∀ {pts : List (Nat × PV)} {xs out : List PV}, (∀ x, x ∈ xs → x.cells.length = sz) → fillE sz xs pts = some out →
    fillP (fun i => some (i * sz, sz)) (flat xs) pts = some (flat out) ∧ (∀ x, x ∈ out → x.cells.length = sz) ∧ out.length = xs.length
  | [], xs, out, hs, h => by obtain rfl := Option.some.inj h; exact ⟨rfl, hs, rfl⟩
  | (i, p) :: pts, xs, out, hs, h => by
    simp only [fillE] at h
    cases hb : Nat.beq p.cells.length sz && Nat.blt i xs.length with
    | false => rw [hb] at h; cases h
    | true =>
      rw [hb] at h
      simp only [cond_true] at h
      simp only [Bool.and_eq_true] at hb
      have e1 := beq_eq hb.1
      have e2 := blt_lt hb.2
      have hs' : ∀ x, x ∈ xs.set i p → x.cells.length = sz := fun x hx => by
        rcases List.mem_or_eq_of_mem_set hx with hx | rfl
        · exact hs x hx
        · exact e1
      obtain ⟨g1, g2, g3⟩ := fillE_fillP hs' h
      refine ⟨?_, g2, by simpa using g3⟩
      simp only [fillP, e1]
      have hle : i * sz + sz ≤ (flat xs).length := by
        rw [length_flat hs]
        calc i * sz + sz = (i + 1) * sz := by rw [Nat.succ_mul]
          _ ≤ xs.length * sz := Nat.mul_le_mul_right _ e2
      rw [show (Nat.beq sz sz && Nat.ble (i * sz + sz) (flat xs).length) = true from by
        simp only [Bool.and_eq_true]; exact ⟨Nat.beq_refl sz, Nat.ble_eq_true_of_le hle⟩]
      simp only [cond_true]
      rw [flat_set hs e1 e2]
      exact g1

theorem flat_replicate_get {z : PV} {n i : Nat} {y : PV} (h0 : 0 < z.cells.length) (h : (flat (List.replicate n z))[i]? = some y) : z.cells[i % z.cells.length]? = some y := by
  have hs : ∀ x, x ∈ List.replicate n z → x.cells.length = z.cells.length := fun x hx => by rw [(List.mem_replicate.1 hx).2]
  have hi : i < (flat (List.replicate n z)).length := (List.getElem?_eq_some_iff.1 h).1
  rw [length_flat hs, List.length_replicate] at hi
  have hj : i / z.cells.length < n := Nat.div_lt_of_lt_mul (by rw [Nat.mul_comm]; exact hi)
  have hk : i % z.cells.length < z.cells.length := Nat.mod_lt _ h0
  have e := flat_get hs (j := i / z.cells.length) (k := i % z.cells.length) (x := z) (y := z.cells[i % z.cells.length]) (by simp [hj]) (List.getElem?_eq_getElem hk)
  rw [show i / z.cells.length * z.cells.length + i % z.cells.length = i from by rw [Nat.mul_comm]; exact Nat.div_add_mod _ _] at e
  rw [e] at h
  rw [List.getElem?_eq_getElem hk]
  exact h

section
variable {P : Program} {av : Av} {ty : TypeId}

theorem run_zeroPV (hT : TOk P) {t : TypeId} {z : PV} (h : zeroPV P t = some z) (w : World) : ∃ i zv, P.types[t]? = some i ∧ i.zero = some zv ∧ (zeroValue t).run P w = .ok zv w ∧ ofConst zv = some z ∧ zv.cells.size = i.size := by
  unfold zeroPV at h
  split at h
  · rename_i i hi
    split at h
    · rename_i zv hz
      exact ⟨i, zv, hi, hz, by simp [zeroValue, typeInfo, info_of hi, hz], h, hT.size t i zv hi hz⟩
    · cases h
  · cases h

theorem ofConst_tup {v : Value} {p : PV} (h : ofConst v = some p) : ∀ cs, p ≠ .tup cs := by
  intro cs e
  subst e
  unfold ofConst at h
  split at h
  · split at h <;> simp at h
  · unfold ofCell at h; split at h <;> simp at h

theorem CRel.zeros {M : Mem} {zv : Value} {z : PV} (h : ofConst zv = some z) (n : Nat) (h0 : 0 < zv.cells.size) :
    CRel M (flat (List.replicate n z)) (((Array.range (n * zv.cells.size)).map (zv.cells[· % zv.cells.size]!)).toList) ∧ z.cells.length = zv.cells.size := by
  have hc := cells_rel (M := M) (ofConst_rep h) (ofConst_tup h)
  have hl : z.cells.length = zv.cells.size := by have := hc.1; simp at this; omega
  have hs : ∀ x, x ∈ List.replicate n z → x.cells.length = z.cells.length := fun x hx => by rw [(List.mem_replicate.1 hx).2]
  refine ⟨⟨by simp [length_flat hs, hl], fun i p v h1 h2 => ?_⟩, hl⟩
  have g := flat_replicate_get (by omega) h1
  have hi : i < (flat (List.replicate n z)).length := (List.getElem?_eq_some_iff.1 h1).1
  rw [length_flat hs, List.length_replicate, hl] at hi
  simp [hi] at h2
  rw [hl] at g
  have hm : i % zv.cells.size < zv.cells.size := Nat.mod_lt _ h0
  exact hc.2 _ p v g (by rw [← h2]; simp [hm])

theorem elemT_eq {t e : TypeId} (h : elemT P t = some e) : P.underlying t = some (.slice e) := by
  unfold elemT at h
  split at h
  · rename_i e' he; obtain rfl := Option.some.inj h; exact he
  · cases h

/-- What a slice's literal leaves: its cells. -/
theorem run_buildSlice (hT : TOk P) {G : Gh} {s : St} {a : Act} (hA : Avs av G s a) {t e : TypeId} {n : Nat} {parts : Array (Nat × Operand)} {z : PV} {ps : List (Nat × PV)} {xs : List PV} (h1 : elemT P t = some e) (h2 : zeroPV P e = some z)
    (h3 : partsPV av parts.toList = some ps) (h4 : n * sizeT P e ≤ 65536) (h0 : 0 < sizeT P e) (h5 : fillE (sizeT P e) (List.replicate n z) ps = some xs) (w : World) (o : Oper) (ho : o.op = .buildSlice t n parts) :
    ∃ cells : Array Value, (execOp a.eval o).run P w = .ok (.value (.slice (some ⟨w.heap.size, 0, none⟩) n n)) (w.alloc (.cells cells e)) ∧ CRel G.M (flat xs) cells.toList ∧ (∀ x, x ∈ xs → x.cells.length = sizeT P e) ∧ xs.length = n := by
  obtain ⟨i, zv, hi, hz, hrun, hof, hsz⟩ := run_zeroPV hT h2 w
  have hse : sizeT P e = i.size := by simp [sizeT, hi]
  have hp0 : 0 < zv.cells.size := by omega
  obtain ⟨hc, hzl⟩ := CRel.zeros (M := G.M) hof n hp0
  have hs : ∀ x, x ∈ List.replicate n z → x.cells.length = sizeT P e := fun x hx => by rw [(List.mem_replicate.1 hx).2]; omega
  obtain ⟨g1, g2, g3⟩ := fillE_fillP hs h5
  have hpr := pts_rel hA h3
  obtain ⟨res, r1, r2⟩ := fill_rel (M := G.M) (place' := fun j => some (j * sizeT P e, sizeT P e)) (fun _ => rfl) hpr hc g1
  refine ⟨res, ?_, r2, g2, by simpa using g3⟩
  have hm : (parts.map fun x => (x.1, a.eval x.2)).toList = parts.toList.map fun x => (x.1, a.eval x.2) := by simp
  have hnot : ¬ (n * i.size > 2 ^ 24) := by rw [← hse]; omega
  simp only [execOp, ho, Instr.buildSlice]
  by_cases hn : n = 0
  · subst hn
    simp only [Nat.zero_mul] at r1
    simp [run_underlying (elemT_eq h1), run_sizeOf' hi, newRow]
    rw [hse, hsz] at r1
    have hr : (Array.map (fun x => zv.cells[x % i.size]!) (Array.range 0)) = (Array.map (fun x => (default : Value)) (Array.range 0)) := by simp
    rw [hr] at r1
    simp only [r1]
    simp
  · have hne : ¬ (n * i.size = 0) := by
      have : 0 < n * i.size := Nat.mul_pos (by omega) (by omega)
      omega
    rw [hse] at r1
    rw [hsz] at r1
    have hne' : ¬ (n = 0 ∨ i.size = 0) := by omega
    simp [run_underlying (elemT_eq h1), run_sizeOf' hi, hnot, hne', hrun, newRow, hm]
    simp [hsz, r1]
    exact fun h => absurd h hne

theorem s_buildSlice (hT : TOk P) {t e : TypeId} {n : Nat} {parts : Array (Nat × Operand)} {z : PV} {ps : List (Nat × PV)} {xs : List PV} (h1 : elemT P t = some e) (h2 : zeroPV P e = some z)
    (h3 : partsPV av parts.toList = some ps) (h4 : n * sizeT P e ≤ 65536) (h0 : 0 < sizeT P e) (h5 : fillE (sizeT P e) (List.replicate n z) ps = some xs) : Sound1 P (.buildSlice t n parts) ty av (.pv (.lst xs)) := by
  intro F w0 M0 G s a w o hS hA ho _
  obtain ⟨cells, g1, g2, g3, rfl⟩ := run_buildSlice hT hA h1 h2 h3 h4 h0 h5 w o ho
  obtain ⟨G', k1, k2, k3⟩ := hS.newPlain (xs := xs) h0 g3 e (vs := cells) (by have := g2.1; simp at this; omega) (fun i p v e1 e2 => g2.2 i p v e1 (by simpa using e2)) xs.length (Nat.le_refl _)
  exact OpTo.value g1 ⟨G', k1, k2, k3⟩
end
end Go.AL

/- Operations that depend on their operands alone: the rest, and calls. -/
set_option linter.unusedVariables false
set_option linter.unusedSimpArgs false
namespace Go.AL
open Go.RowKit

/-- A window of the first vector. -/
def winRel (G : Gh) (s : St) (ps : List PV) (v : Value) : Prop := ∃ lo hi : Nat, ps = [.int .i64 lo, .int .i64 hi] ∧ ∃ sz xs, 0 < s.nv ∧ s.vc[0]? = some (some (0, sz, xs)) ∧ ARel G s (.win 0 0 lo hi) v
def OutRel (G : Gh) (s : St) : Out → Value → Prop
  | (.pv p, _), v => PRep G.M p v
  | (.bld sz xs, _), v => (xs = [] ∧ v = .slice none 0 0 ∧ 0 < sz) ∨ ∃ i e, s.tp[i]? = some (e, sz) ∧ ARel G s (.bld i e xs) v
  | (.vec sz xs, _), v => ∃ i ver, s.vc[i]? = some (some (ver, sz, xs)) ∧ ARel G s (.vec i ver) v ∧ s.nv ≤ i
  | (.box ps, _), v => winRel G s ps v
  | (.map _, _), _ => False
  | (.own _ _, _), _ => False
  | (.tup sz xs ps, _), v => ∃ i ver u us, s.vc[i]? = some (some (ver, sz, xs)) ∧ s.nv ≤ i ∧ v = .tuple (u :: us).toArray ∧ ARel G s (.vec i ver) u ∧ us.length = ps.length ∧ ∀ (k : Nat) p z, ps[k]? = some p → us[k]? = some z → PRep G.M p z

def HasBody (P : Program) (g : FuncId) : Prop := ∃ fn, P.funcs[g]? = some fn ∧ fn.body.isNone = false
def FOk (P : Program) : Prop := ∀ (g : Nat) fn, P.funcs[g]? = some fn → (fn.name == "runtime.NumGoroutine") = false

/-- What a call comes to. -/
def CSpec (P : Program) (g : FuncId) (args : List Arg) (out : Out) : Prop := HasBody P g ∧
  ∀ (F : Fr) (M : Mem) (G : Gh) (w : World) (vs : Array Value), SRel F w M G (enter args).2 w → FRel G (enter args).2 (enter args).1 vs →
    Calls P g vs w fun e w' => ∃ v G' s', e = .returned v ∧ SRel F w M G' s' w' ∧ OutRel G' s' out v ∧ refs s' = some out.2
def CallOk (P : Program) (call : FuncId → List Arg → Option Out) : Prop := ∀ g args out, call g args = some out → args.all plainArg = true → CSpec P g args out

section
variable {F : Fr} {w0 : World} {M0 : Mem} {G : Gh} {s : St} {w : World}

theorem Ext.mem {G : Gh} {M' : Mem} (s : St) (h : G.M.le M') : Ext G s { G with M := M' } s :=
  ⟨h, Nat.le_refl _, Nat.le_refl _, Nat.le_refl _, fun _ _ _ h => h, fun i _ cur xs h => ⟨cur, xs, h, Nat.le_refl _, fun _ => ⟨rfl, rfl⟩⟩, fun i _ cur h => ⟨cur, h, Nat.le_refl _, fun _ => rfl⟩⟩

/-- Behind a call that was handed plain values alone. -/
theorem SRel.absorb (h : SRel F w0 M0 G s w) {G' : Gh} {s' : St} {w' : World} (hc : SRel Fr.none w G.M G' s' w') : SRel F w0 M0 { G with M := G'.M } s w' := by
  have he := Ext.mem s hc.base
  refine ⟨hc.os.trans h.os, hc.tape.trans h.tape, hc.output.trans h.output, Nat.le_trans h.size hc.size, ?_, hc.agree, Mem.le_trans h.base hc.base, h.lay, ?_, ?_, ?_, ?_, ?_, ?_, h.rt, h.rv⟩
  · intro k hk hF
    rw [hc.old k (Nat.lt_of_lt_of_le hk h.size) (fun e => e)]
    exact h.old k hk hF
  · intro a v e
    rcases hc.newM a v e with e | e | e
    · exact h.newM a v e
    · exact .inr (.inl (Nat.le_trans h.size e))
    · exact e.elim
  · intro b hb
    obtain ⟨g1, g2⟩ := h.own b hb
    exact ⟨Nat.lt_of_lt_of_le g1 hc.size, g2⟩
  · intro a v e
    rcases hc.newM a v e with e | e | e
    · exact h.ownM a v e
    rotate_left
    · exact e.elim
    · left
      cases ho : G.own a.block with
      | free => rfl
      | _ => have := (h.own a.block (by rw [ho]; simp)).1; omega
  · intro i z cs b h1 h2
    obtain ⟨q1, q2, q3, vs, q4, q5⟩ := h.bx i z cs b h1 h2
    exact ⟨q1, Nat.lt_of_lt_of_le q2 hc.size, q3, vs, by rw [hc.old b q2 (fun e => e)]; exact q4, q5.ext he⟩
  · intro i ver sz xs h1
    obtain ⟨q0, q1, q2⟩ := h.vc i ver sz xs h1
    refine ⟨q0, q1, ?_⟩
    rcases q2 with q2 | ⟨b, o, vs, T, g1, g2, g3, g4, g5, g6⟩
    · exact .inl q2
    · refine .inr ⟨b, o, vs, T, g1, g2, ?_, g4, g5, fun j x k y e1 e2 => ?_⟩
      · rw [hc.old b (h.own b (by rw [g2]; simp)).1 (fun e => e)]; exact g3
      · obtain ⟨v, e3, e4⟩ := g6 j x k y e1 e2
        exact ⟨v, e3, e4.mono hc.base⟩
  · intro i e h1
    obtain ⟨q0, q2⟩ := h.tp i e h1
    refine ⟨q0, ?_⟩
    rcases q2 with q2 | ⟨b, o, vs, T, g1, g2, g3, g4⟩
    · exact .inl q2
    · exact .inr ⟨b, o, vs, T, g1, g2, by rw [hc.old b (h.own b (by rw [g2]; simp)).1 (fun e => e)]; exact g3, g4⟩

def G0 (M : Mem) : Gh := ⟨M, fun _ => .free, fun _ => none, fun _ => ⟨none, 0, 1⟩, fun _ => ⟨none, 0, 1⟩⟩
theorem SRel.start (h : SRel F w0 M0 G s w) : SRel Fr.none w G.M (G0 G.M) ⟨[], [], [], 0, 0⟩ w :=
  ⟨rfl, rfl, rfl, Nat.le_refl _, fun _ _ _ => rfl, h.agree, Mem.le_refl _, h.layW (fun b hb => hb.elim), fun _ _ e => .inl e, fun b hb => absurd rfl hb, fun _ _ _ => .inl rfl, fun i z cs b h1 _ => by simp at h1, fun i v sz xs h1 => by simp at h1, fun i e h1 => by simp at h1, ⟨rfl, fun i h1 => absurd h1 (Nat.not_lt_zero _)⟩, fun i h1 => absurd h1 (Nat.not_lt_zero _)⟩
end

theorem enterT_pv (ps : List PV) (s : St) : enterT (ps.map .pv) s = (ps.map .pv, s) := by
  induction ps with
  | nil => rfl
  | cons p ps ih => simp [enterT, ih]
theorem nBox_pv (ps : List PV) : nBox (ps.map .pv) = 0 := by
  induction ps with
  | nil => rfl
  | cons p ps ih => simpa [nBox] using ih
theorem nVec_pv (ps : List PV) : nVec (ps.map .pv) = 0 := by
  induction ps with
  | nil => rfl
  | cons p ps ih => simpa [nVec] using ih
theorem enter_pv (ps : List PV) : enter (ps.map .pv) = (ps.map .pv, ⟨[], [], [], 0, 0⟩) := by
  simp [enter, enterT_pv, nBox_pv, nVec_pv]
theorem plain_pv (ps : List PV) : (ps.map Arg.pv).all plainArg = true := by
  induction ps with
  | nil => rfl
  | cons p ps ih => simp [ih, plainArg]

/-- A call with plain values, and a plain result. -/
theorem call_pv {P : Program} {call : FuncId → List Arg → Option Out} (hc : CallOk P call) {g : FuncId} {ps : List PV} {r : PV} (h : (call g (ps.map .pv)).bind retPV = some r) : HasBody P g ∧
    ∀ {F : Fr} {w0 : World} {M0 : Mem} {G : Gh} {s : St} {w : World} {vs : Array Value}, SRel F w0 M0 G s w → vs.size = ps.length → (∀ (i : Nat) p v, ps[i]? = some p → vs[i]? = some v → PRep G.M p v) →
      Calls P g vs w fun e w' => ∃ v G', e = .returned v ∧ SRel F w0 M0 G' s w' ∧ Ext G s G' s ∧ PRep G'.M r v := by
  cases ho : call g (ps.map .pv) with
  | none => rw [ho] at h; cases h
  | some out =>
    rw [ho] at h
    simp only [Option.bind_some] at h
    obtain ⟨hb, hs⟩ := hc g _ out ho (plain_pv ps)
    refine ⟨hb, fun {F w0 M0 G s w vs} hS hl hr => ?_⟩
    rw [enter_pv] at hs
    refine (hs Fr.none G.M (G0 G.M) w vs hS.start ⟨by simpa using hl, fun i a v h1 h2 => ?_⟩).mono ?_
    · rw [List.getElem?_map] at h1
      cases hp : ps[i]? with
      | none => rw [hp] at h1; cases h1
      | some p => rw [hp] at h1; obtain rfl := Option.some.inj h1; exact hr i p v hp h2
    · rintro e w' ⟨v, G', s', rfl, k1, k2, _⟩
      refine ⟨v, _, rfl, hS.absorb k1, Ext.mem s k1.base, ?_⟩
      obtain ⟨arg, outs⟩ := out
      cases arg with
      | pv p =>
        cases outs with
        | nil => obtain rfl := Option.some.inj h; exact k2
        | cons _ _ => cases h
      | bld sz xs =>
        cases outs with
        | nil =>
          obtain rfl := Option.some.inj h
          rcases k2 with ⟨rfl, rfl, _⟩ | ⟨i, e, _, k2⟩
          · exact PRep.weak (p := .nils) .nils
          · exact k2.2.1
        | cons _ _ => cases h
      | vec sz xs => cases h
      | box cs => cases h
      | map es => cases h
      | own _ _ => cases h
      | tup _ _ _ => cases h

section
variable {P : Program} {av : Av} {ty : TypeId}

theorem run_callFunc (hF : FOk P) {g : FuncId} (hb : HasBody P g) (args : Array Value) (w : World) : (callFunc g args).run P w = .ok (.enter g args) w := by
  obtain ⟨fn, h1, h2⟩ := hb
  have h3 := hF g fn h1
  simp only [callFunc]
  simp only [Sem.run_bind, run_program, Result.andThen_ok, h1, h2, h3]
  rfl

theorem avs_rel {G : Gh} {s : St} {a : Act} (hA : Avs av G s a) : ∀ {l : List Operand} {bs : List AV}, l.mapM av = some bs → bs.length = l.length ∧ ∀ (i : Nat) b y, bs[i]? = some b → l[i]? = some y → ARel G s b (a.eval y)
  | [], bs, h => by simp at h; subst h; exact ⟨rfl, by simp⟩
  | y :: l, bs, h => by
    rw [List.mapM_cons] at h
    cases hy : av y with
    | none => rw [hy] at h; simp at h
    | some b =>
      cases hl : l.mapM av with
      | none => rw [hy, hl] at h; simp at h
      | some bs' =>
        rw [hy, hl] at h
        simp at h
        subst h
        obtain ⟨g1, g2⟩ := avs_rel hA hl
        refine ⟨by simp [g1], fun i b' y' h1 h2 => ?_⟩
        cases i with
        | zero => simp at h1 h2; subst h1; subst h2; exact hA y b hy
        | succ i => exact g2 i b' y' (by simpa using h1) (by simpa using h2)

theorem toPVs_rel {G : Gh} {s : St} : ∀ {bs : List AV} {ps : List PV}, toPVs bs = some ps → ps.length = bs.length ∧ ∀ (i : Nat) p v, ps[i]? = some p → (∀ b, bs[i]? = some b → ARel G s b v) → PRep G.M p v
  | [], ps, h => by obtain rfl := Option.some.inj h; exact ⟨rfl, by simp⟩
  | b :: bs, ps, h => by
    simp only [toPVs] at h
    split at h
    · rename_i p ps' hp hps
      obtain rfl := Option.some.inj h
      obtain ⟨g1, g2⟩ := toPVs_rel (G := G) (s := s) hps
      refine ⟨by simp [g1], fun i q v h1 h2 => ?_⟩
      cases i with
      | zero => simp at h1; subst h1; exact toPV_rel (h2 b rfl) hp
      | succ i => exact g2 i q v (by simpa using h1) (fun b' hb' => h2 b' (by simpa using hb'))
    · cases h

/-- The values of several operands. -/
theorem args_rel {G : Gh} {s : St} {a : Act} (hA : Avs av G s a) {l : Array Operand} {bs : List AV} {ps : List PV} (h1 : l.toList.mapM av = some bs) (h2 : toPVs bs = some ps) :
    (l.map a.eval).size = ps.length ∧ ∀ (i : Nat) p v, ps[i]? = some p → (l.map a.eval)[i]? = some v → PRep G.M p v := by
  obtain ⟨g1, g2⟩ := avs_rel hA h1
  obtain ⟨k1, k2⟩ := toPVs_rel (G := G) (s := s) h2
  refine ⟨by simp [k1, g1], fun i p v e1 e2 => k2 i p v e1 fun b hb => ?_⟩
  simp only [Array.getElem?_map] at e2
  cases hy : l[i]? with
  | none => rw [hy] at e2; cases e2
  | some y =>
    rw [hy] at e2
    obtain rfl := Option.some.inj e2
    exact g2 i b y hb (by simpa using hy)

theorem s_call (hF : FOk P) {call : FuncId → List Arg → Option Out} (hc : CallOk P call) {c : Call} {y : Operand} {g : FuncId} {cap : List PV} {bs : List AV} {ps : List PV} {r : PV} (hcal : c.callee = .value y) (hy : av y = some (.pv (.fn g cap)))
    (h1 : c.args.toList.mapM av = some bs) (h2 : toPVs bs = some ps) (h : (call g ((ps ++ cap).map .pv)).bind retPV = some r) : Sound1 P (.call c) ty av (.pv r) := by
  intro F w0 M0 G s a w o hS hA ho _
  obtain ⟨hb, hs⟩ := call_pv hc h
  obtain ⟨vs, e1, e2, e3⟩ := rep_fn (hA y _ hy)
  obtain ⟨k1, k2⟩ := args_rel hA h1 h2
  have hrun : (execOp a.eval o).run P w = .ok (.enter g (c.args.map a.eval ++ vs.toArray)) w := by
    simp [execOp, ho, resolve, hcal, e1, Deferred.ofValue, invoke, run_callFunc hF hb]
  refine OpTo.enter hrun ((hs hS (by rw [Array.size_append, k1, List.length_append]; simp [e2]) fun i p v i1 i2 => ?_).mono ?_)
  · by_cases hi : i < ps.length
    · rw [List.getElem?_append_left hi] at i1
      rw [Array.getElem?_append_left (by rw [k1]; exact hi)] at i2
      exact k2 i p v i1 i2
    · rw [List.getElem?_append_right (by omega)] at i1
      rw [Array.getElem?_append_right (by rw [k1]; omega), k1] at i2
      exact e3 _ p v i1 (by simpa using i2)
  · rintro e w' ⟨v, G', rfl, q1, q2, q3⟩
    exact ⟨v, rfl, G', q1, q2, q3⟩

theorem s_makeFunc {g : FuncId} {caps first : Array Operand} {bs : List AV} {ps : List PV} (hf : first.isEmpty = true) (h1 : caps.toList.mapM av = some bs) (h2 : toPVs bs = some ps) : Sound1 P (.makeFunc (.func g) first caps) ty av (.pv (.fn g ps)) := by
  refine .val fun G s a w o _ hA ho _ => ?_
  obtain ⟨k1, k2⟩ := args_rel hA h1 h2
  have hf' : first = #[] := by simpa using hf
  refine ⟨.func (.func g) #[] (caps.map a.eval), by simp [execOp, ho, Instr.makeFunc, hf'], ?_⟩
  have := PRep.fn (M := G.M) g ps (caps.map a.eval).toList (by simpa using k1) (fun i c v i1 i2 => k2 i c v i1 (by simpa using i2))
  rw [Array.toArray_toList] at this
  exact this
end
end Go.AL

/- Operations that depend on their operands alone: fields, elements, parts, conversions; and all of them together. -/
set_option linter.unusedVariables false
set_option linter.unusedSimpArgs false
namespace Go.AL
open Go.RowKit

section
variable {P : Program} {av : Av} {ty : TypeId}

theorem shCell_agg (v : Value) : ∀ l, shCell v ≠ .agg l := by intro l; cases v <;> simp [shCell]
theorem shCell_tup (v : Value) : ∀ l, shCell v ≠ .tup l := by intro l; cases v <;> simp [shCell]
theorem shCell_one {v : Value} {p : PV} (h : (shCell v).fits p = true) : p.one = true := by
  cases v <;> cases p <;> simp [shCell, Sh.fits, PV.one] at h ⊢

/-- A type's shape, and the table. -/
theorem shOf_agg (hT : TOk P) {t : TypeId} {l : List Sh} (h : shOf P t = .agg l) : ∃ i d, P.types[t]? = some i ∧ i.size = l.length ∧ P.underlying t = some d ∧ ((∃ fs, d = .struct fs) ∨ ∃ n e, d = .array n e) ∧ ∀ s, s ∈ l → ∃ v, s = shCell v := by
  unfold shOf at h
  split at h
  · rename_i i hi
    split at h
    · rename_i cs hz
      injection h with h
      have hsz := hT.size t i _ hi hz
      have hm : ∀ s, s ∈ l → ∃ v, s = shCell v := by rw [← h]; intro s hs; obtain ⟨v, _, e⟩ := List.mem_map.1 hs; exact ⟨v, e.symm⟩
      have hl : i.size = l.length := by rw [← h, ← hsz]; simp [Value.cells]
      rcases hT.agg t i cs hi hz with ⟨fs, e⟩ | ⟨n, e', e⟩
      · exact ⟨i, _, hi, hl, e, .inl ⟨fs, rfl⟩, hm⟩
      · exact ⟨i, _, hi, hl, e, .inr ⟨n, e', rfl⟩, hm⟩
    · exact absurd h (shCell_agg _ _)
    · cases h
  · cases h

theorem shOf_one (hT : TOk P) {t : TypeId} (h : ∀ l, shOf P t ≠ .agg l) (hn : ∃ i z, P.types[t]? = some i ∧ i.zero = some z) : ∃ i d, P.types[t]? = some i ∧ i.size = 1 ∧ P.underlying t = some d ∧ (∀ fs, d ≠ .struct fs) ∧ (∀ n e, d ≠ .array n e) ∧ ∃ v, shOf P t = shCell v := by
  obtain ⟨i, z, hi, hz⟩ := hn
  have hsh : shOf P t = match z with | .agg cs => .agg (cs.toList.map shCell) | v => shCell v := by
    cases z <;> simp [shOf, hi, hz]
  by_cases ho : ∀ cs, z ≠ .agg cs
  · obtain ⟨d, g1, g2, g3⟩ := hT.one t i z hi hz ho
    have hsz := hT.size t i z hi hz
    refine ⟨i, d, hi, ?_, g1, g2, g3, z, ?_⟩
    · rw [← hsz]; cases z <;> first | rfl | exact absurd rfl (ho _)
    · rw [hsh]; cases z <;> first | rfl | exact absurd rfl (ho _)
  · obtain ⟨cs, rfl⟩ : ∃ cs, z = .agg cs := by
      cases z <;> first | exact ⟨_, rfl⟩ | exact absurd (fun cs e => by cases e) ho
    exact absurd hsh (h _)

theorem fitsL_len : ∀ {l : List Sh} {cs : List PV} {o : Bool}, Sh.fitsL l cs o = true → cs.length = l.length
  | [], cs, o, h => by cases cs <;> simp [Sh.fitsL] at h ⊢
  | s :: l, cs, o, h => by
    cases cs with
    | nil => simp [Sh.fitsL] at h
    | cons c cs => simp only [Sh.fitsL, Bool.and_eq_true] at h; simp [fitsL_len h.2]

/-- What fits a type's shape has its cells. -/
theorem cells_of_fits (hT : TOk P) {t : TypeId} {x : PV} (h : (shOf P t).fits x = true) (hn : ∃ i z, P.types[t]? = some i ∧ i.zero = some z) : x.cells.length = sizeT P t ∧ (shOf P t).cells x = x.cells ∧ (∀ cs, x ≠ .tup cs) := by
  by_cases ha : ∃ l, shOf P t = .agg l
  · obtain ⟨l, ha⟩ := ha
    obtain ⟨i, d, hi, hl, _⟩ := shOf_agg hT ha
    rw [ha] at h
    cases x <;> simp [Sh.fits] at h
    rename_i cs
    refine ⟨?_, ?_, by simp⟩
    · simp only [PV.cells, sizeT, hi, fitsL_len h, hl]
    · rw [ha]; simp only [Sh.cells, PV.cells]; exact Sh.viewA_eq l cs true h
  · have ha' : ∀ l, shOf P t ≠ .agg l := fun l e => ha ⟨l, e⟩
    obtain ⟨i, d, hi, hl, _, _, _, v, hv⟩ := shOf_one hT ha' hn
    have ho : x.one = true := by rw [hv] at h; exact shCell_one h
    have hc : x.cells = [x] := by cases x <;> simp [PV.one] at ho <;> rfl
    refine ⟨by rw [hc]; simp [sizeT, hi, hl], ?_, by intro cs e; subst e; cases ho⟩
    have := Sh.view_eq _ x h
    cases hs : shOf P t with
    | agg l => exact absurd hs (ha' l)
    | _ => simp only [Sh.cells, hc]; rw [hs] at this; rw [this]

theorem sizeOf_pos {x : PV} (h : ∀ cs, x ≠ .agg cs) : 0 < x.cells.length := by cases x <;> simp [PV.cells] at h ⊢

theorem s_indexAddr (hT : TOk P) {t e : TypeId} {y z : Operand} {b : AV} {xs : List PV} {i : Int} {x : PV} (h1 : elemT P t = some e) (hy : av y = some b) (hz : av z = some (.pv (.int .i64 i))) (hl : b.list = some xs) (h0 : 0 ≤ i)
    (hx : xs[i.toNat]? = some x) (hfit : (shOf P e).fits x = true) (hn : ∃ i z, P.types[e]? = some i ∧ i.zero = some z) : Sound1 P (.indexAddr t y z) ty av (.pv (.ptr ((shOf P e).cells x))) := by
  refine .val fun G s a w o _ hA ho _ => ?_
  have hr := list_rel (hA y b hy) hl
  have hi := rep_int (hA z _ hz)
  obtain ⟨hlen, hcs, _⟩ := cells_of_fits hT hfit hn
  obtain ⟨j, zz, hj, hjz⟩ := hn
  have hlt : i.toNat < xs.length := (List.getElem?_eq_some_iff.1 hx).1
  generalize hu : a.eval y = u at hr
  cases hr with
  | lst xs A cap sz vs hsz hcap hs hone hA' hm hrr =>
    have hne : xs ≠ [] := by intro e; subst e; simp at hlt
    obtain ⟨ad, rfl⟩ : ∃ ad, A = some ad := by cases A with | none => exact absurd rfl (hA' (Nat.lt_of_lt_of_le (List.length_pos_iff.2 hne) hcap)) | some ad => exact ⟨ad, rfl⟩
    have hszT : j.size = sz := by
      have := hs x (List.mem_of_getElem? hx)
      rw [hlen] at this
      simpa [sizeT, hj] using this
    refine ⟨.pointer (some (ad.add (i.toNat * sz))), ?_, ?_⟩
    · simp only [execOp, ho, Instr.indexAt]
      have : i < (xs.length : Int) := by omega
      simp [hu, hi, asIntOf, run_underlying (elemT_eq h1), run_sizeOf' hj, h0, this, hszT]
    · rw [hcs]
      refine .ptr _ _ (fun k => vs i.toNat k) (hone x (List.mem_of_getElem? hx)) (fun k c hk => ?_) (fun k c hk => hrr _ x k c hx hk)
      rw [Addr.add_add]
      exact hm ad rfl _ x k c hx hk

theorem s_index {t : TypeId} {y z : Operand} {s : List UInt8} {i : Int} {c : UInt8} (hu : P.underlying t = some .string) (hy : av y = some (.pv (.str s))) (hz : av z = some (.pv (.int .i64 i))) (h0 : 0 ≤ i) (hc : s[i.toNat]? = some c) :
    Sound1 P (.index t y z) ty av (.pv (.int .u8 c.toNat)) := by
  refine .val fun G st a w o _ hA ho _ => ?_
  have e1 := rep_str (hA y _ hy)
  have e2 := rep_int (hA z _ hz)
  refine ⟨.int .u8 c.toNat, ?_, PRep.int _ _⟩
  have hg : (mkStr s)[i.toNat]? = some c := by
    have hl : i.toNat < s.length := (List.getElem?_eq_some_iff.1 hc).1
    have hl2 : i.toNat < (mkStr s).size := hl
    rw [getElem?_pos (mkStr s) i.toNat hl2]
    congr 1
    have := (List.getElem?_eq_some_iff.1 hc).2
    rw [← this]; rfl
  simp [execOp, ho, Instr.index, e1, e2, asIntOf, run_underlying hu, h0, hg]

theorem s_extract {y : Operand} {i : Nat} {cs : List PV} {c : PV} (hy : av y = some (.pv (.tup cs))) (hc : cs[i]? = some c) : Sound1 P (.extract y i) ty av (.pv c) := by
  refine .val fun G st a w o _ hA ho _ => ?_
  have hr := hA y _ hy
  generalize hu : a.eval y = u at hr
  cases hr with
  | tup cs vs hl hr =>
    have hi : i < vs.length := by rw [hl]; exact (List.getElem?_eq_some_iff.1 hc).1
    refine ⟨vs[i], ?_, hr i c _ hc (List.getElem?_eq_getElem hi)⟩
    simp [execOp, ho, hu, Instr.extract, hi]

theorem s_extract0 {y : Operand} {j ver : Nat} {ps : List PV} (hy : av y = some (.tupV j ver ps)) : Sound1 P (.extract y 0) ty av (.vec j ver) := by
  refine .val fun G st a w o _ hA ho _ => ?_
  obtain ⟨u, us, hu, hv, hl, hp⟩ := hA y _ hy
  exact ⟨u, by simp [execOp, ho, hu, Instr.extract], hv⟩
theorem s_extract1 {y : Operand} {j ver k : Nat} {ps : List PV} {p : PV} (hy : av y = some (.tupV j ver ps)) (hk : ps[k]? = some p) : Sound1 P (.extract y (k + 1)) ty av (.pv p) := by
  refine .val fun G st a w o _ hA ho _ => ?_
  obtain ⟨u, us, hu, hv, hl, hp⟩ := hA y _ hy
  have hi : k < us.length := by rw [hl]; exact (List.getElem?_eq_some_iff.1 hk).1
  exact ⟨us[k], by simp [execOp, ho, hu, Instr.extract, hi], hp k p _ hk (List.getElem?_eq_getElem hi)⟩

theorem s_len_str {c : Call} {y : Operand} {t : TypeId} {s : List UInt8} (hc : c.callee = .builtin .len) (ha : c.args = #[y]) (ht : c.argTypes[0]? = some t) (hu : P.underlying t = some .string) (hy : av y = some (.pv (.str s))) :
    Sound1 P (.call c) ty av (.pv (.int .i64 s.length)) := by
  refine .val fun G st a w o _ hA ho _ => ⟨_, ?_, PRep.int _ _⟩
  have e1 := rep_str (hA y _ hy)
  simp [execOp, ho, resolve, hc, ha, invoke, builtin, Builtin.len_, ht, run_underlying hu, e1, goInt, size_mkStr]

theorem s_len {c : Call} {y : Operand} {t e : TypeId} {b : AV} {xs : List PV} (hc : c.callee = .builtin .len) (ha : c.args = #[y]) (ht : c.argTypes[0]? = some t) (hu : P.underlying t = some (.slice e)) (hy : av y = some b) (hl : b.list = some xs) :
    Sound1 P (.call c) ty av (.pv (.int .i64 xs.length)) := by
  refine .val fun G st a w o _ hA ho _ => ⟨_, ?_, PRep.int _ _⟩
  obtain ⟨A, c', e1⟩ := rep_lst (list_rel (hA y b hy) hl)
  simp [execOp, ho, resolve, hc, ha, invoke, builtin, Builtin.len_, ht, run_underlying hu, e1, goInt]
end
end Go.AL

/- Operations that depend on their operands alone: parts of slices and strings, fields, conversions; and all of them together. -/
set_option linter.unusedVariables false
set_option linter.unusedSimpArgs false
namespace Go.AL
open Go.RowKit

section
variable {P : Program} {av : Av} {ty : TypeId}

theorem rep_drop {M : Mem} {xs : List PV} {A : Option Addr} {c : Nat} (h : PRep M (.lst xs) (.slice A xs.length c)) (l m sz : Nat) (hs : ∀ x, x ∈ xs → x.cells.length = sz) (c' : Nat) (hl : l ≤ xs.length) (hm : m ≤ xs.length) (hc' : min m xs.length - l ≤ c') (hcc : 0 < c' → 0 < c) :
    PRep M (.lst ((xs.take m).drop l)) (.slice (A.map (·.add (l * sz))) (min m xs.length - l) c') := by
  cases h with
  | lst xs A cap sz' vs hsz hcap hs' ho hA hmm hr =>
    have hsz' : xs ≠ [] → sz = sz' := fun hne => by
      obtain ⟨x, hx⟩ := List.exists_mem_of_ne_nil _ hne
      rw [← hs x hx, ← hs' x hx]
    have hlen : ((xs.take m).drop l).length = min m xs.length - l := by simp
    rw [← hlen]
    refine .lst _ _ c' sz' (fun j k => vs (l + j) k) hsz (by rw [hlen]; exact hc') (fun x hx => hs' x (List.mem_of_mem_take (List.mem_of_mem_drop hx))) (fun x hx => ho x (List.mem_of_mem_take (List.mem_of_mem_drop hx))) ?_ ?_ ?_
    · intro hne
      cases A with
      | none => exact absurd rfl (hA (hcc hne))
      | some ad => simp
    · intro ad had j x k y h1 h2
      cases A with
      | none => cases had
      | some ad0 =>
        simp only [Option.map_some, Option.some.injEq] at had
        subst had
        rw [List.getElem?_drop, List.getElem?_take] at h1
        split at h1
        · have hne : xs ≠ [] := by intro e; subst e; simp at h1
          rw [Addr.add_add, hsz' hne, ← Nat.add_assoc, ← Nat.add_mul]
          exact hmm ad0 rfl _ x k y h1 h2
        · cases h1
    · intro j x k y h1 h2
      rw [List.getElem?_drop, List.getElem?_take] at h1
      split at h1
      · exact hr _ x k y h1 h2
      · cases h1

theorem rep_cap {M : Mem} {xs : List PV} {A : Option Addr} {n c : Nat} (h : PRep M (.lst xs) (.slice A n c)) : n = xs.length ∧ xs.length ≤ c := by
  cases h with
  | lst xs A cap sz vs hsz hcap hs ho hA hm hr => exact ⟨rfl, hcap⟩

theorem rep_stride {M : Mem} {xs : List PV} {u : Value} (h : PRep M (.lst xs) u) : ∃ sz, ∀ x, x ∈ xs → x.cells.length = sz := by
  cases h with
  | lst xs A cap sz vs hsz hcap hs ho hA hm hr => exact ⟨sz, hs⟩

/-- The bounds of a slice expression. -/
theorem bound_rel {G : Gh} {s : St} {a : Act} (hA : Avs av G s a) {y : Option Operand} {b : Option Int} (h : bound av y = some b) : y.map a.eval = b.map (fun n => Value.int .i64 n) := by
  cases y with
  | none => obtain rfl := Option.some.inj h; rfl
  | some y =>
    simp only [bound] at h
    split at h
    · rename_i n hn
      obtain rfl := Option.some.inj h
      have := rep_int (hA y _ hn)
      simp [this]
    · cases h

def lo0 (b : Option Int) : Nat := (b.getD 0).toNat
def hi0 (b : Option Int) (n : Nat) : Nat := (b.getD n).toNat
def okB (n : Nat) (lo hi : Option Int) : Prop := 0 ≤ lo.getD 0 ∧ lo.getD 0 ≤ hi.getD n ∧ hi.getD n ≤ n

theorem run_sliceBound {n : Int} {y : Nat} {code : BoundsCode} (h0 : 0 ≤ n) (h1 : n ≤ y) (w : World) : (Instr.sliceBound (.int .i64 n) y code).run P w = .ok n.toNat w := by
  simp [Instr.sliceBound, asIntOf, h0, h1]

theorem run_sliceBounds {isS : Bool} {len cap : Nat} {lo hi : Option Int} (hc : len ≤ cap) (h : okB len lo hi) (w : World) :
    (Instr.sliceBounds isS len cap (lo.map (Value.int .i64)) (hi.map (Value.int .i64)) none).run P w = .ok (lo0 lo, hi0 hi len, cap) w := by
  obtain ⟨h1, h2, h3⟩ := h
  unfold Instr.sliceBounds
  cases lo with
  | none =>
    cases hi with
    | none => simp [lo0, hi0]
    | some n =>
      simp at h1 h2 h3
      simp [run_sliceBound (P := P) (code := if isS = true then BoundsCode.sliceAcap else BoundsCode.sliceAlen) h2 (show n ≤ (cap : Int) by omega), lo0, hi0]
  | some l =>
    cases hi with
    | none =>
      simp at h1 h2
      simp [run_sliceBound (P := P) (code := .sliceB) h1 h2, lo0, hi0]
    | some n =>
      simp at h1 h2 h3
      have : l ≤ (n.toNat : Int) := by omega
      simp [run_sliceBound (P := P) (code := if isS = true then BoundsCode.sliceAcap else BoundsCode.sliceAlen) (show (0:Int) ≤ n by omega) (show n ≤ (cap : Int) by omega), run_sliceBound (P := P) (code := .sliceB) h1 this, lo0, hi0]

theorem sliceL_eq {ρ : Type} {xs : List PV} {lo hi : Option Int} {K : List PV → Option ρ} {r : ρ} (h : sliceL xs lo hi K = some r) : okB xs.length lo hi ∧ K ((xs.take (hi0 hi xs.length)).drop (lo0 lo)) = some r := by
  unfold sliceL at h
  split at h
  · exact ⟨⟨by simp, by simp, by simp⟩, by simpa [lo0, hi0] using h⟩
  · rename_i l
    cases hd : decide (0 ≤ l) && decide (l ≤ (xs.length : Int)) with
    | false => rw [hd] at h; cases h
    | true =>
      rw [hd] at h
      simp only [Bool.and_eq_true, decide_eq_true_eq] at hd
      exact ⟨⟨hd.1, by simpa using hd.2, by simp⟩, by simpa [lo0, hi0] using h⟩
  · rename_i l
    cases hd : decide (0 ≤ l) && decide (l ≤ (xs.length : Int)) with
    | false => rw [hd] at h; cases h
    | true =>
      rw [hd] at h
      simp only [Bool.and_eq_true, decide_eq_true_eq] at hd
      exact ⟨⟨by simp, by simpa using hd.1, by simpa using hd.2⟩, by simpa [lo0, hi0] using h⟩
  · rename_i l n
    cases hd : decide (0 ≤ l) && decide (l ≤ n) && decide (n ≤ (xs.length : Int)) with
    | false => rw [hd] at h; cases h
    | true =>
      rw [hd] at h
      simp only [Bool.and_eq_true, decide_eq_true_eq] at hd
      exact ⟨⟨hd.1.1, hd.1.2, hd.2⟩, by simpa [lo0, hi0] using h⟩

theorem sliceS_eq {ρ : Type} {xs : List UInt8} {lo hi : Option Int} {K : List UInt8 → Option ρ} {r : ρ} (h : sliceS xs lo hi K = some r) : okB xs.length lo hi ∧ K ((xs.take (hi0 hi xs.length)).drop (lo0 lo)) = some r := by
  unfold sliceS at h
  split at h
  · exact ⟨⟨by simp, by simp, by simp⟩, by simpa [lo0, hi0] using h⟩
  · rename_i l
    cases hd : decide (0 ≤ l) && decide (l ≤ (xs.length : Int)) with
    | false => rw [hd] at h; cases h
    | true =>
      rw [hd] at h
      simp only [Bool.and_eq_true, decide_eq_true_eq] at hd
      exact ⟨⟨hd.1, by simpa using hd.2, by simp⟩, by simpa [lo0, hi0] using h⟩
  · rename_i l
    cases hd : decide (0 ≤ l) && decide (l ≤ (xs.length : Int)) with
    | false => rw [hd] at h; cases h
    | true =>
      rw [hd] at h
      simp only [Bool.and_eq_true, decide_eq_true_eq] at hd
      exact ⟨⟨by simp, by simpa using hd.1, by simpa using hd.2⟩, by simpa [lo0, hi0] using h⟩
  · rename_i l n
    cases hd : decide (0 ≤ l) && decide (l ≤ n) && decide (n ≤ (xs.length : Int)) with
    | false => rw [hd] at h; cases h
    | true =>
      rw [hd] at h
      simp only [Bool.and_eq_true, decide_eq_true_eq] at hd
      exact ⟨⟨hd.1.1, hd.1.2, hd.2⟩, by simpa [lo0, hi0] using h⟩

theorem extract_mkStr (s : List UInt8) (l h : Nat) : (mkStr s).extract l h = mkStr ((s.take h).drop l) := by
  apply ByteArray.ext
  simp [mkStr, ByteArray.data_extract]
  rw [List.drop_take]

theorem s_slice_str {t : TypeId} {y : Operand} {lo hi : Option Operand} {l h : Option Int} {s : List UInt8} (hu : P.underlying t = some .string) (hy : av y = some (.pv (.str s))) (hl : bound av lo = some l) (hh : bound av hi = some h) (hb : okB s.length l h) :
    Sound1 P (.slice t y lo hi none) ty av (.pv (.str ((s.take (hi0 h s.length)).drop (lo0 l)))) := by
  refine .val fun G st a w o _ hA ho _ => ⟨_, ?_, PRep.str _⟩
  have e1 := rep_str (hA y _ hy)
  have e2 := bound_rel hA hl
  have e3 := bound_rel hA hh
  have := run_sliceBounds (P := P) (isS := false) (Nat.le_refl s.length) hb w
  rw [← e2, ← e3] at this
  simp [execOp, ho, Instr.sliceAt, run_underlying hu, Instr.slice, e1, size_mkStr, this, extract_mkStr]

/-- What a slice expression at a slice leaves. -/
theorem run_slice {t e : TypeId} {y : Operand} {lo hi : Option Operand} {l h : Option Int} {A : Option Addr} {n c : Nat} (hu : elemT P t = some e) {i : TypeInfo} (hi' : P.types[e]? = some i) {G : Gh} {st : St} {a : Act} (hA : Avs av G st a) (hy : a.eval y = .slice A n c) (hc : n ≤ c)
    (hl : bound av lo = some l) (hh : bound av hi = some h) (hb : okB n l h) (w : World) {o : Oper} (ho : o.op = .slice t y lo hi none) :
    (execOp a.eval o).run P w = .ok (.value (.slice (if c = lo0 l then A else A.map (·.add (lo0 l * i.size))) (hi0 h n - lo0 l) (c - lo0 l))) w := by
  have e2 := bound_rel hA hl
  have e3 := bound_rel hA hh
  have := run_sliceBounds (P := P) (isS := true) hc hb w
  rw [← e2, ← e3] at this
  simp [execOp, ho, Instr.sliceAt, run_underlying (elemT_eq hu), Instr.slice, hy, this, run_sizeOf' hi']

theorem zero_size (hT : TOk P) {e : TypeId} {z : PV} (h : zeroPV P e = some z) : ∃ i, P.types[e]? = some i ∧ ∃ zv, i.zero = some zv := by
  obtain ⟨i, zv, h1, h2, _⟩ := run_zeroPV hT h default
  exact ⟨i, h1, zv, h2⟩
end
end Go.AL
