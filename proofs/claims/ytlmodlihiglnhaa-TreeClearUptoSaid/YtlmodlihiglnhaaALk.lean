/- Operations that depend on their operands alone: parts of slices and strings, fields, conversions; and all of them together. -/
import Derived.Test.YtlmodlihiglnhaaALj
set_option linter.unusedVariables false
set_option linter.unusedSimpArgs false
namespace Go.AL
open Go.RowKit

section
variable {P : Program} {av : Av} {ty : TypeId}

theorem rep_drop {M : Mem} {xs : List PV} {A : Option Addr} {c : Nat} (h : PRep M (.lst xs) (.slice A xs.length c)) (l m sz : Nat) (hs : ∀ x, x ∈ xs → x.cells.length = sz) (c' : Nat) (hl : l ≤ xs.length) (hm : m ≤ xs.length) (hc' : min m xs.length - l ≤ c') (hcc : 0 < c' → 0 < c) :
    PRep M (.lst ((xs.take m).drop l)) (.slice (A.map (·.add (l * sz))) (min m xs.length - l) c') := by
  cases h with
  | lst xs A cap sz' vs hsz hcap hs' ho hA hmm hr =>
    have hsz' : xs ≠ [] → sz = sz' := fun hne => by
      obtain ⟨x, hx⟩ := List.exists_mem_of_ne_nil _ hne
      rw [← hs x hx, ← hs' x hx]
    have hlen : ((xs.take m).drop l).length = min m xs.length - l := by simp
    rw [← hlen]
    refine .lst _ _ c' sz' (fun j k => vs (l + j) k) hsz (by rw [hlen]; exact hc') (fun x hx => hs' x (List.mem_of_mem_take (List.mem_of_mem_drop hx))) (fun x hx => ho x (List.mem_of_mem_take (List.mem_of_mem_drop hx))) ?_ ?_ ?_
    · intro hne
      cases A with
      | none => exact absurd rfl (hA (hcc hne))
      | some ad => simp
    · intro ad had j x k y h1 h2
      cases A with
      | none => cases had
      | some ad0 =>
        simp only [Option.map_some, Option.some.injEq] at had
        subst had
        rw [List.getElem?_drop, List.getElem?_take] at h1
        split at h1
        · have hne : xs ≠ [] := by intro e; subst e; simp at h1
          rw [Addr.add_add, hsz' hne, ← Nat.add_assoc, ← Nat.add_mul]
          exact hmm ad0 rfl _ x k y h1 h2
        · cases h1
    · intro j x k y h1 h2
      rw [List.getElem?_drop, List.getElem?_take] at h1
      split at h1
      · exact hr _ x k y h1 h2
      · cases h1

theorem rep_cap {M : Mem} {xs : List PV} {A : Option Addr} {n c : Nat} (h : PRep M (.lst xs) (.slice A n c)) : n = xs.length ∧ xs.length ≤ c := by
  cases h with
  | lst xs A cap sz vs hsz hcap hs ho hA hm hr => exact ⟨rfl, hcap⟩

theorem rep_stride {M : Mem} {xs : List PV} {u : Value} (h : PRep M (.lst xs) u) : ∃ sz, ∀ x, x ∈ xs → x.cells.length = sz := by
  cases h with
  | lst xs A cap sz vs hsz hcap hs ho hA hm hr => exact ⟨sz, hs⟩

/-- The bounds of a slice expression. -/
theorem bound_rel {G : Gh} {s : St} {a : Act} (hA : Avs av G s a) {y : Option Operand} {b : Option Int} (h : bound av y = some b) : y.map a.eval = b.map (fun n => Value.int .i64 n) := by
  cases y with
  | none => obtain rfl := Option.some.inj h; rfl
  | some y =>
    simp only [bound] at h
    split at h
    · rename_i n hn
      obtain rfl := Option.some.inj h
      have := rep_int (hA y _ hn)
      simp [this]
    · cases h

def lo0 (b : Option Int) : Nat := (b.getD 0).toNat
def hi0 (b : Option Int) (n : Nat) : Nat := (b.getD n).toNat
def okB (n : Nat) (lo hi : Option Int) : Prop := 0 ≤ lo.getD 0 ∧ lo.getD 0 ≤ hi.getD n ∧ hi.getD n ≤ n

theorem run_sliceBound {n : Int} {y : Nat} {code : BoundsCode} (h0 : 0 ≤ n) (h1 : n ≤ y) (w : World) : (Instr.sliceBound (.int .i64 n) y code).run P w = .ok n.toNat w := by
  simp [Instr.sliceBound, asIntOf, h0, h1]

theorem run_sliceBounds {isS : Bool} {len cap : Nat} {lo hi : Option Int} (hc : len ≤ cap) (h : okB len lo hi) (w : World) :
    (Instr.sliceBounds isS len cap (lo.map (Value.int .i64)) (hi.map (Value.int .i64)) none).run P w = .ok (lo0 lo, hi0 hi len, cap) w := by
  obtain ⟨h1, h2, h3⟩ := h
  unfold Instr.sliceBounds
  cases lo with
  | none =>
    cases hi with
    | none => simp [lo0, hi0]
    | some n =>
      simp at h1 h2 h3
      simp [run_sliceBound (P := P) (code := if isS = true then BoundsCode.sliceAcap else BoundsCode.sliceAlen) h2 (show n ≤ (cap : Int) by omega), lo0, hi0]
  | some l =>
    cases hi with
    | none =>
      simp at h1 h2
      simp [run_sliceBound (P := P) (code := .sliceB) h1 h2, lo0, hi0]
    | some n =>
      simp at h1 h2 h3
      have : l ≤ (n.toNat : Int) := by omega
      simp [run_sliceBound (P := P) (code := if isS = true then BoundsCode.sliceAcap else BoundsCode.sliceAlen) (show (0:Int) ≤ n by omega) (show n ≤ (cap : Int) by omega), run_sliceBound (P := P) (code := .sliceB) h1 this, lo0, hi0]

theorem sliceL_eq {ρ : Type} {xs : List PV} {lo hi : Option Int} {K : List PV → Option ρ} {r : ρ} (h : sliceL xs lo hi K = some r) : okB xs.length lo hi ∧ K ((xs.take (hi0 hi xs.length)).drop (lo0 lo)) = some r := by
  unfold sliceL at h
  split at h
  · exact ⟨⟨by simp, by simp, by simp⟩, by simpa [lo0, hi0] using h⟩
  · rename_i l
    cases hd : decide (0 ≤ l) && decide (l ≤ (xs.length : Int)) with
    | false => rw [hd] at h; cases h
    | true =>
      rw [hd] at h
      simp only [Bool.and_eq_true, decide_eq_true_eq] at hd
      exact ⟨⟨hd.1, by simpa using hd.2, by simp⟩, by simpa [lo0, hi0] using h⟩
  · rename_i l
    cases hd : decide (0 ≤ l) && decide (l ≤ (xs.length : Int)) with
    | false => rw [hd] at h; cases h
    | true =>
      rw [hd] at h
      simp only [Bool.and_eq_true, decide_eq_true_eq] at hd
      exact ⟨⟨by simp, by simpa using hd.1, by simpa using hd.2⟩, by simpa [lo0, hi0] using h⟩
  · rename_i l n
    cases hd : decide (0 ≤ l) && decide (l ≤ n) && decide (n ≤ (xs.length : Int)) with
    | false => rw [hd] at h; cases h
    | true =>
      rw [hd] at h
      simp only [Bool.and_eq_true, decide_eq_true_eq] at hd
      exact ⟨⟨hd.1.1, hd.1.2, hd.2⟩, by simpa [lo0, hi0] using h⟩

theorem sliceS_eq {ρ : Type} {xs : List UInt8} {lo hi : Option Int} {K : List UInt8 → Option ρ} {r : ρ} (h : sliceS xs lo hi K = some r) : okB xs.length lo hi ∧ K ((xs.take (hi0 hi xs.length)).drop (lo0 lo)) = some r := by
  unfold sliceS at h
  split at h
  · exact ⟨⟨by simp, by simp, by simp⟩, by simpa [lo0, hi0] using h⟩
  · rename_i l
    cases hd : decide (0 ≤ l) && decide (l ≤ (xs.length : Int)) with
    | false => rw [hd] at h; cases h
    | true =>
      rw [hd] at h
      simp only [Bool.and_eq_true, decide_eq_true_eq] at hd
      exact ⟨⟨hd.1, by simpa using hd.2, by simp⟩, by simpa [lo0, hi0] using h⟩
  · rename_i l
    cases hd : decide (0 ≤ l) && decide (l ≤ (xs.length : Int)) with
    | false => rw [hd] at h; cases h
    | true =>
      rw [hd] at h
      simp only [Bool.and_eq_true, decide_eq_true_eq] at hd
      exact ⟨⟨by simp, by simpa using hd.1, by simpa using hd.2⟩, by simpa [lo0, hi0] using h⟩
  · rename_i l n
    cases hd : decide (0 ≤ l) && decide (l ≤ n) && decide (n ≤ (xs.length : Int)) with
    | false => rw [hd] at h; cases h
    | true =>
      rw [hd] at h
      simp only [Bool.and_eq_true, decide_eq_true_eq] at hd
      exact ⟨⟨hd.1.1, hd.1.2, hd.2⟩, by simpa [lo0, hi0] using h⟩

theorem extract_mkStr (s : List UInt8) (l h : Nat) : (mkStr s).extract l h = mkStr ((s.take h).drop l) := by
  apply ByteArray.ext
  simp [mkStr, ByteArray.data_extract]
  rw [List.drop_take]

theorem s_slice_str {t : TypeId} {y : Operand} {lo hi : Option Operand} {l h : Option Int} {s : List UInt8} (hu : P.underlying t = some .string) (hy : av y = some (.pv (.str s))) (hl : bound av lo = some l) (hh : bound av hi = some h) (hb : okB s.length l h) :
    Sound1 P (.slice t y lo hi none) ty av (.pv (.str ((s.take (hi0 h s.length)).drop (lo0 l)))) := by
  refine .val fun G st a w o _ hA ho _ => ⟨_, ?_, PRep.str _⟩
  have e1 := rep_str (hA y _ hy)
  have e2 := bound_rel hA hl
  have e3 := bound_rel hA hh
  have := run_sliceBounds (P := P) (isS := false) (Nat.le_refl s.length) hb w
  rw [← e2, ← e3] at this
  simp [execOp, ho, Instr.sliceAt, run_underlying hu, Instr.slice, e1, size_mkStr, this, extract_mkStr]

/-- What a slice expression at a slice leaves. -/
theorem run_slice {t e : TypeId} {y : Operand} {lo hi : Option Operand} {l h : Option Int} {A : Option Addr} {n c : Nat} (hu : elemT P t = some e) {i : TypeInfo} (hi' : P.types[e]? = some i) {G : Gh} {st : St} {a : Act} (hA : Avs av G st a) (hy : a.eval y = .slice A n c) (hc : n ≤ c)
    (hl : bound av lo = some l) (hh : bound av hi = some h) (hb : okB n l h) (w : World) {o : Oper} (ho : o.op = .slice t y lo hi none) :
    (execOp a.eval o).run P w = .ok (.value (.slice (if c = lo0 l then A else A.map (·.add (lo0 l * i.size))) (hi0 h n - lo0 l) (c - lo0 l))) w := by
  have e2 := bound_rel hA hl
  have e3 := bound_rel hA hh
  have := run_sliceBounds (P := P) (isS := true) hc hb w
  rw [← e2, ← e3] at this
  simp [execOp, ho, Instr.sliceAt, run_underlying (elemT_eq hu), Instr.slice, hy, this, run_sizeOf' hi']

theorem zero_size (hT : TOk P) {e : TypeId} {z : PV} (h : zeroPV P e = some z) : ∃ i, P.types[e]? = some i ∧ ∃ zv, i.zero = some zv := by
  obtain ⟨i, zv, h1, h2, _⟩ := run_zeroPV hT h default
  exact ⟨i, h1, zv, h2⟩
end
end Go.AL
