/- Chains of partial answers, and what they come to; the abstract machine with calls without bound. -/
import Derived.Test.YtlmodlihiglnhaaALzf
set_option linter.unusedVariables false
set_option linter.unusedSimpArgs false
namespace Go.AL
open Go.RowKit

/-- What holds the one holds the other. -/
def Le {α : Type} (a b : Option α) : Prop := ∀ r, a = some r → b = some r
theorem Le.refl {α : Type} (a : Option α) : Le a a := fun _ h => h
theorem Le.trans {α : Type} {a b c : Option α} (h : Le a b) (k : Le b c) : Le a c := fun r e => k r (h r e)
theorem Le.none {α : Type} (b : Option α) : Le none b := fun _ h => by cases h

/-- A chain that comes to b. -/
structure A {α : Type} (g : Nat → Option α) (b : Option α) : Prop where
  up : ∀ n, Le (g n) (g (n + 1))
  to : ∀ r, b = some r → ∃ n, g n = some r
  le : ∀ n, Le (g n) b

theorem A.mono {α : Type} {g : Nat → Option α} {b : Option α} (h : A g b) {n m : Nat} (hnm : n ≤ m) : Le (g n) (g m) := by
  induction hnm with
  | refl => exact .refl _
  | step _ ih => exact ih.trans (h.up _)
theorem A.const {α : Type} (b : Option α) : A (fun _ => b) b := ⟨fun _ => .refl _, fun r h => ⟨0, h⟩, fun _ => .refl _⟩
theorem A.bind {α β : Type} {g : Nat → Option α} {b : Option α} {k : Nat → α → Option β} {k' : α → Option β} (h : A g b) (hk : ∀ a, A (fun n => k n a) (k' a)) : A (fun n => (g n).bind (k n)) (b.bind k') := by
  refine ⟨fun n r e => ?_, fun r e => ?_, fun n r e => ?_⟩
  · cases hg : g n with
    | none => simp only [hg] at e; cases e
    | some a => simp only [hg, Option.bind_some] at e; simp only [h.up n a hg, Option.bind_some]; exact (hk a).up n r e
  · cases hb : b with
    | none => simp only [hb] at e; cases e
    | some a =>
      simp only [hb, Option.bind_some] at e
      obtain ⟨n, hn⟩ := h.to a hb
      obtain ⟨m, hm⟩ := (hk a).to r e
      refine ⟨max n m, ?_⟩
      simp only [h.mono (Nat.le_max_left n m) a hn, Option.bind_some]
      exact (hk a).mono (Nat.le_max_right n m) r hm
  · cases hg : g n with
    | none => simp only [hg] at e; cases e
    | some a => simp only [hg, Option.bind_some] at e; simp only [h.le n a hg, Option.bind_some]; exact (hk a).le n r e
theorem A.bif {α : Type} {c : Bool} {g h : Nat → Option α} {a b : Option α} (x : A g a) (y : A h b) : A (fun n => bif c then g n else h n) (bif c then a else b) := by
  cases c <;> assumption
/-- Two, as a chain. -/
def duo {α : Type} (a b : α) : Nat → α | 0 => a | _ + 1 => b
theorem A.two {α : Type} {a b : Option α} (h : Le a b) : A (duo a b) b :=
  ⟨fun n => by cases n with | zero => exact h | succ n => exact .refl _, fun r e => ⟨1, e⟩, fun n => by cases n with | zero => exact h | succ n => exact .refl _⟩
theorem A.le01 {α : Type} {g : Nat → Option α} {b : Option α} (h : A g b) : Le (g 0) (g 1) := h.up 0
/-- What lies between. -/
theorem A.between {α : Type} {g h : Nat → Option α} {b : Option α} (x : A g b) (h1 : ∀ n, Le (h n) (g n)) (h2 : ∀ n, Le (g n) (h (n + 1))) : A h b :=
  ⟨fun n => (h1 n).trans (h2 n), fun r e => by obtain ⟨n, hn⟩ := x.to r e; exact ⟨n + 1, h2 n r hn⟩, fun n => (h1 n).trans (x.le n)⟩
theorem A.shift {α : Type} {g : Nat → Option α} {b : Option α} (x : A g b) : A (fun n => g (n + 1)) b :=
  ⟨fun n => x.up (n + 1), fun r e => by obtain ⟨n, hn⟩ := x.to r e; exact ⟨n, x.up n r hn⟩, fun n => x.le _⟩
theorem A.unique {α : Type} {g : Nat → Option α} {a b : Option α} (x : A g a) (y : A g b) : a = b := by
  cases a with
  | none =>
    cases b with
    | none => rfl
    | some r => obtain ⟨n, hn⟩ := y.to r rfl; have := x.le n r hn; cases this
  | some r => obtain ⟨n, hn⟩ := x.to r rfl; exact (y.le n r hn).symm
open Classical in
/-- What a chain comes to. -/
noncomputable def lim {α : Type} (g : Nat → Option α) : Option α := if h : ∃ r n, g n = some r then some h.choose else none
theorem A.lim {α : Type} {g : Nat → Option α} (h : ∀ n, Le (g n) (g (n + 1))) : A g (lim g) := by
  have hm : ∀ {n m : Nat}, n ≤ m → Le (g n) (g m) := by
    intro n m hnm
    induction hnm with
    | refl => exact .refl _
    | step _ ih => exact ih.trans (h _)
  refine ⟨h, fun r e => ?_, fun n r e => ?_⟩
  · unfold AL.lim at e
    split at e
    · rename_i hx
      obtain rfl := Option.some.inj e
      exact hx.choose_spec
    · cases e
  · have hx : ∃ r n, g n = some r := ⟨r, n, e⟩
    unfold AL.lim
    rw [dif_pos hx]
    obtain ⟨m, hq⟩ := hx.choose_spec
    have h1 := hm (Nat.le_max_left n m) r e
    have h2 := hm (Nat.le_max_right n m) _ hq
    exact h2.symm.trans h1

section
variable {P : Program} {f : FuncId} {ρ : Type}

structure EA (E : Nat → Env) (EW : Env) : Prop where
  call : ∀ g as, A (fun n => (E n).call g as) (EW.call g as)
  heads : ∀ n, (E n).heads = EW.heads
  kind : ∀ n, (E n).kind = EW.kind
  mode : ∀ n, (E n).mode = EW.mode
  keepNil : ∀ n, (E n).keepNil = EW.keepNil
  retVec : ∀ n, (E n).retVec = EW.retVec
  cuts : ∀ n, (E n).cuts = EW.cuts
  lend : ∀ n, (E n).lend = EW.lend

variable {E : Nat → Env} {EW : Env}

theorem callP_A (h : EA E EW) (g : PV) (ps : List PV) : A (fun n => (E n).callP g ps) (EW.callP g ps) := by
  unfold Env.callP
  cases g <;> first | exact A.const _ | exact (h.call _ _).bind fun _ => A.const _

theorem binI_A (op : BinOp) (k : IntKind) (x y : Int) {K : Nat → PV → Option ρ} {KW : PV → Option ρ} (hK : ∀ v, A (fun n => K n v) (KW v)) : A (fun n => binI op k x y (K n)) (binI op k x y KW) := by
  cases op <;> simp only [binI] <;> repeat' (first | exact A.const _ | exact hK _ | (refine A.bif ?_ ?_))
theorem binS_A (op : BinOp) (x y : List UInt8) {K : Nat → PV → Option ρ} {KW : PV → Option ρ} (hK : ∀ v, A (fun n => K n v) (KW v)) : A (fun n => binS op x y (K n)) (binS op x y KW) := by
  cases op <;> simp only [binS] <;> repeat' (first | exact A.const _ | exact hK _ | (refine A.bif ?_ ?_))
theorem binPV_A (d : Option TypeDesc) (op : BinOp) (a b : PV) {K : Nat → PV → Option ρ} {KW : PV → Option ρ} (hK : ∀ v, A (fun n => K n v) (KW v)) : A (fun n => binPV d op a b (K n)) (binPV d op a b KW) := by
  unfold binPV
  split <;> repeat' (first | exact A.const _ | exact hK _ | exact binI_A _ _ _ _ hK | exact binS_A _ _ _ hK | (refine A.bif ?_ ?_) | (refine A.bind (A.const _) fun _ => ?_))
theorem unPV_A (op : UnOp) (a : PV) {K : Nat → PV → Option ρ} {KW : PV → Option ρ} (hK : ∀ v, A (fun n => K n v) (KW v)) : A (fun n => unPV op a (K n)) (unPV op a KW) := by
  unfold unPV
  split <;> first | exact A.const _ | exact hK _
theorem convPV_A (s d : TypeId) (a : PV) {K : Nat → PV → Option ρ} {KW : PV → Option ρ} (hK : ∀ v, A (fun n => K n v) (KW v)) : A (fun n => convPV P s d a (K n)) (convPV P s d a KW) := by
  unfold convPV
  split <;> repeat' (first | exact A.const _ | exact hK _ | (refine A.bif ?_ ?_))
theorem sliceL_A (xs : List PV) (lo hi : Option Int) {K : Nat → List PV → Option ρ} {KW : List PV → Option ρ} (hK : ∀ v, A (fun n => K n v) (KW v)) : A (fun n => sliceL xs lo hi (K n)) (sliceL xs lo hi KW) := by
  unfold sliceL
  split <;> repeat' (first | exact A.const _ | exact hK _ | (refine A.bif ?_ ?_))
theorem sliceS_A (xs : List UInt8) (lo hi : Option Int) {K : Nat → List UInt8 → Option ρ} {KW : List UInt8 → Option ρ} (hK : ∀ v, A (fun n => K n v) (KW v)) : A (fun n => sliceS xs lo hi (K n)) (sliceS xs lo hi KW) := by
  unfold sliceS
  split <;> repeat' (first | exact A.const _ | exact hK _ | (refine A.bif ?_ ?_))

theorem effP_A (h : EA E EW) (av : Operand → Option AV) (op : Op) (ty : TypeId) (dst : Option Tmp) {K : Nat → AV → Option ρ} {KW : AV → Option ρ} (hK : ∀ v, A (fun n => K n v) (KW v)) :
    A (fun n => effP P (E n) av op ty dst (K n)) (effP P EW av op ty dst KW) := by
  cases op <;> simp only [effP] <;> repeat' (first | exact A.const _ | exact hK _ | exact binPV_A _ _ _ _ fun _ => hK _ | exact unPV_A _ _ fun _ => hK _ | exact convPV_A _ _ _ fun _ => hK _ | exact sliceL_A _ _ _ fun _ => hK _ | exact sliceS_A _ _ _ fun _ => hK _ | (refine A.bif ?_ ?_) | (refine A.bind (A.const _) fun _ => ?_) | (refine A.bind (callP_A h _ _) fun _ => ?_) | split)

theorem loadAV_A (t : TypeId) (a : AV) (s : St) {K : Nat → AV → Option ρ} {KW : AV → Option ρ} (hK : ∀ v, A (fun n => K n v) (KW v)) : A (fun n => loadAV P t a s (K n)) (loadAV P t a s KW) := by
  unfold loadAV
  repeat' (first | exact A.const _ | exact hK _ | (refine A.bif ?_ ?_) | (refine A.bind (A.const _) fun _ => ?_) | split)
theorem storeAV_A (t : TypeId) (a v : AV) (s : St) {K : Nat → St → Option ρ} {KW : St → Option ρ} (hK : ∀ v, A (fun n => K n v) (KW v)) : A (fun n => storeAV P t a v s (K n)) (storeAV P t a v s KW) := by
  unfold storeAV
  repeat' (first | exact A.const _ | exact hK _ | (refine A.bif ?_ ?_) | (refine A.bind (A.const _) fun _ => ?_) | split)
theorem appendAV_A (t : TypeId) (a b : AV) (s : St) {K : Nat → AV → St → Option ρ} {KW : AV → St → Option ρ} (hK : ∀ v s, A (fun n => K n v s) (KW v s)) : A (fun n => appendAV P t a b s (K n)) (appendAV P t a b s KW) := by
  unfold appendAV
  repeat' (first | exact A.const _ | exact hK _ _ | (refine A.bif ?_ ?_) | (refine A.bind (A.const _) fun _ => ?_) | split)

theorem buildAV_A (av : Operand → Option AV) (t : TypeId) (parts : List (Nat × Operand)) {K : Nat → AV → Option ρ} {KW : AV → Option ρ} (hK : ∀ v, A (fun n => K n v) (KW v)) : A (fun n => buildAV P av t parts (K n)) (buildAV P av t parts KW) := by
  unfold buildAV
  repeat' (first | exact A.const _ | exact hK _ | split)
theorem loadAgg_A (t : TypeId) (a : AV) (s : St) {K : Nat → AV → Option ρ} {KW : AV → Option ρ} (hK : ∀ v, A (fun n => K n v) (KW v)) : A (fun n => loadAgg P t a s (K n)) (loadAgg P t a s KW) := by
  unfold loadAgg
  repeat' (first | exact A.const _ | exact hK _ | (refine A.bif ?_ ?_) | split)
theorem appendVec_A (t : TypeId) (j ver : Nat) (b : AV) (s : St) {K : Nat → AV → St → Option ρ} {KW : AV → St → Option ρ} (hK : ∀ v s, A (fun n => K n v s) (KW v s)) : A (fun n => appendVec P t j ver b s (K n)) (appendVec P t j ver b s KW) := by
  unfold appendVec
  repeat' (first | exact A.const _ | exact hK _ _ | (refine A.bif ?_ ?_) | (refine A.bind (A.const _) fun _ => ?_) | split)

theorem passAll_eq (h : EA E EW) (n : Nat) (g : FuncId) : ∀ (l : List AV) (i : Nat) (s : St), passAll (E n) g i l s = passAll EW g i l s
  | [], i, s => rfl
  | v :: l, i, s => by
    simp only [passAll, h.mode n]
    split
    · rw [passAll_eq h n g l]
    · rfl

theorem effS_A (h : EA E EW) (x : AS) (op : Op) (ty : TypeId) (dst : Option Tmp) {K : Nat → AV → St → Option ρ} {KW : AV → St → Option ρ} (hK : ∀ v s, A (fun n => K n v s) (KW v s)) :
    A (fun n => effS P (E n) f x op ty dst (K n)) (effS P EW f x op ty dst KW) := by
  cases op <;> simp only [effS, passAll_eq h, h.kind, lendAt, aggAt, h.lend, newVec, newTip] <;> repeat' (first | exact A.const _ | exact hK _ _ | exact loadAV_A _ _ _ fun _ => hK _ _ | exact storeAV_A _ _ _ _ fun _ => hK _ _ | exact appendAV_A _ _ _ _ hK | exact appendVec_A _ _ _ _ _ hK | exact buildAV_A _ _ _ fun _ => hK _ _ | exact loadAgg_A _ _ _ fun _ => hK _ _ | exact sliceL_A _ _ _ fun _ => hK _ _ | (refine A.bif ?_ ?_) | (refine A.bind (A.const _) fun _ => ?_) | (refine A.bind (h.call _ _) fun _ => ?_) | split)

theorem plain_eq (h : EA E EW) (n : Nat) (o : Oper) : plain (E n) f o = plain EW f o := by simp only [plain, lendAt, h.kind n, h.lend n]

theorem eff_A (h : EA E EW) (o : Oper) (x : AS) {K : Nat → AV → St → Option ρ} {KW : AV → St → Option ρ} (hK : ∀ v s, A (fun n => K n v s) (KW v s)) : A (fun n => eff P (E n) f o x (K n)) (eff P EW f o x KW) := by
  simp only [eff, plain_eq h]
  exact A.bif (effP_A h _ _ _ _ fun _ => hK _ _) (effS_A h _ _ _ _ hK)

theorem effs_A (h : EA E EW) (all : Array Oper) : ∀ (ops : List Oper) (x : AS) {K : Nat → AS → Option ρ} {KW : AS → Option ρ}, (∀ v, A (fun n => K n v) (KW v)) → A (fun n => effs P (E n) f all ops x (K n)) (effs P EW f all ops x KW)
  | [], x, K, KW, hK => hK x
  | o :: rest, x, K, KW, hK => by
    have ih := fun x => effs_A h all rest x hK
    simp only [effs]
    repeat' (first | exact A.const _ | exact eff_A h _ _ fun _ _ => ih _ | exact ih _ | (refine A.bif ?_ ?_) | split)

theorem effD_A (h : EA E EW) (all : Array Oper) (b : Nat) (o : Oper) (x : AS) {K : Nat → AV → St → Fp → Option ρ} {KW : AV → St → Fp → Option ρ} (hK : ∀ v s p, A (fun n => K n v s p) (KW v s p)) : A (fun n => effD P (E n) f all b o x (K n)) (effD P EW f all b o x KW) := by
  unfold effD
  simp only [plain_eq h, h.kind, passAll_eq h, lendAt, h.lend, newVec, newTip]
  refine A.bif (effP_A h _ _ _ _ fun _ => hK _ _ _) ?_
  repeat' (first | exact A.const _ | exact hK _ _ _ | exact loadAV_A _ _ _ fun _ => hK _ _ _ | exact storeAV_A _ _ _ _ fun _ => hK _ _ _ | exact appendAV_A _ _ _ _ fun _ _ => hK _ _ _ | exact buildAV_A _ _ _ fun _ => hK _ _ _ | (refine A.bif ?_ ?_) | (refine A.bind (A.const _) fun _ => ?_) | (refine A.bind (h.call _ _) fun _ => ?_) | split)

theorem effsD_A (h : EA E EW) (all : Array Oper) (ps : List (List Nat)) (np : Nat) : ∀ (ops : List Oper) (i : Nat) (fps : List Fp) (x : AS) {K : Nat → AS → Option ρ} {KW : AS → Option ρ}, (∀ v, A (fun n => K n v) (KW v)) → A (fun n => effsD P (E n) f all ps np ops i fps x (K n)) (effsD P EW f all ps np ops i fps x KW)
  | [], i, fps, x, K, KW, hK => hK x
  | o :: rest, i, fps, x, K, KW, hK => by
    have ih := fun i fps x => effsD_A h all ps np rest i fps x hK
    simp only [effsD]
    repeat' (first | exact A.const _ | exact effD_A h _ _ _ _ fun _ _ _ => A.bif (ih _ _ _) (A.const _) | exact ih _ _ _ | (refine A.bif ?_ ?_) | split)

theorem draw_A (h : EA E EW) (ops : Array Oper) (x : AS) {K : Nat → AS → Option ρ} {KW : AS → Option ρ} (hK : ∀ v, A (fun n => K n v) (KW v)) : A (fun n => draw P (E n) f ops x (K n)) (draw P EW f ops x KW) := by
  unfold draw
  exact A.bif (effsD_A h _ _ _ _ _ _ _ hK) (A.const _)
end
end Go.AL
