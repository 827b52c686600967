/- Operations that depend on their operands alone: fields, elements, parts, conversions; and all of them together. -/
import Derived.Test.YtlmodlihiglnhaaALi
set_option linter.unusedVariables false
set_option linter.unusedSimpArgs false
namespace Go.AL
open Go.RowKit

section
variable {P : Program} {av : Av} {ty : TypeId}

theorem shCell_agg (v : Value) : ∀ l, shCell v ≠ .agg l := by intro l; cases v <;> simp [shCell]
theorem shCell_tup (v : Value) : ∀ l, shCell v ≠ .tup l := by intro l; cases v <;> simp [shCell]
theorem shCell_one {v : Value} {p : PV} (h : (shCell v).fits p = true) : p.one = true := by
  cases v <;> cases p <;> simp [shCell, Sh.fits, PV.one] at h ⊢

/-- A type's shape, and the table. -/
theorem shOf_agg (hT : TOk P) {t : TypeId} {l : List Sh} (h : shOf P t = .agg l) : ∃ i d, P.types[t]? = some i ∧ i.size = l.length ∧ P.underlying t = some d ∧ ((∃ fs, d = .struct fs) ∨ ∃ n e, d = .array n e) ∧ ∀ s, s ∈ l → ∃ v, s = shCell v := by
  unfold shOf at h
  split at h
  · rename_i i hi
    split at h
    · rename_i cs hz
      injection h with h
      have hsz := hT.size t i _ hi hz
      have hm : ∀ s, s ∈ l → ∃ v, s = shCell v := by rw [← h]; intro s hs; obtain ⟨v, _, e⟩ := List.mem_map.1 hs; exact ⟨v, e.symm⟩
      have hl : i.size = l.length := by rw [← h, ← hsz]; simp [Value.cells]
      rcases hT.agg t i cs hi hz with ⟨fs, e⟩ | ⟨n, e', e⟩
      · exact ⟨i, _, hi, hl, e, .inl ⟨fs, rfl⟩, hm⟩
      · exact ⟨i, _, hi, hl, e, .inr ⟨n, e', rfl⟩, hm⟩
    · exact absurd h (shCell_agg _ _)
    · cases h
  · cases h

theorem shOf_one (hT : TOk P) {t : TypeId} (h : ∀ l, shOf P t ≠ .agg l) (hn : ∃ i z, P.types[t]? = some i ∧ i.zero = some z) : ∃ i d, P.types[t]? = some i ∧ i.size = 1 ∧ P.underlying t = some d ∧ (∀ fs, d ≠ .struct fs) ∧ (∀ n e, d ≠ .array n e) ∧ ∃ v, shOf P t = shCell v := by
  obtain ⟨i, z, hi, hz⟩ := hn
  have hsh : shOf P t = match z with | .agg cs => .agg (cs.toList.map shCell) | v => shCell v := by
    cases z <;> simp [shOf, hi, hz]
  by_cases ho : ∀ cs, z ≠ .agg cs
  · obtain ⟨d, g1, g2, g3⟩ := hT.one t i z hi hz ho
    have hsz := hT.size t i z hi hz
    refine ⟨i, d, hi, ?_, g1, g2, g3, z, ?_⟩
    · rw [← hsz]; cases z <;> first | rfl | exact absurd rfl (ho _)
    · rw [hsh]; cases z <;> first | rfl | exact absurd rfl (ho _)
  · obtain ⟨cs, rfl⟩ : ∃ cs, z = .agg cs := by
      cases z <;> first | exact ⟨_, rfl⟩ | exact absurd (fun cs e => by cases e) ho
    exact absurd hsh (h _)

theorem fitsL_len : ∀ {l : List Sh} {cs : List PV} {o : Bool}, Sh.fitsL l cs o = true → cs.length = l.length
  | [], cs, o, h => by cases cs <;> simp [Sh.fitsL] at h ⊢
  | s :: l, cs, o, h => by
    cases cs with
    | nil => simp [Sh.fitsL] at h
    | cons c cs => simp only [Sh.fitsL, Bool.and_eq_true] at h; simp [fitsL_len h.2]

/-- What fits a type's shape has its cells. -/
theorem cells_of_fits (hT : TOk P) {t : TypeId} {x : PV} (h : (shOf P t).fits x = true) (hn : ∃ i z, P.types[t]? = some i ∧ i.zero = some z) : x.cells.length = sizeT P t ∧ (shOf P t).cells x = x.cells ∧ (∀ cs, x ≠ .tup cs) := by
  by_cases ha : ∃ l, shOf P t = .agg l
  · obtain ⟨l, ha⟩ := ha
    obtain ⟨i, d, hi, hl, _⟩ := shOf_agg hT ha
    rw [ha] at h
    cases x <;> simp [Sh.fits] at h
    rename_i cs
    refine ⟨?_, ?_, by simp⟩
    · simp only [PV.cells, sizeT, hi, fitsL_len h, hl]
    · rw [ha]; simp only [Sh.cells, PV.cells]; exact Sh.viewA_eq l cs true h
  · have ha' : ∀ l, shOf P t ≠ .agg l := fun l e => ha ⟨l, e⟩
    obtain ⟨i, d, hi, hl, _, _, _, v, hv⟩ := shOf_one hT ha' hn
    have ho : x.one = true := by rw [hv] at h; exact shCell_one h
    have hc : x.cells = [x] := by cases x <;> simp [PV.one] at ho <;> rfl
    refine ⟨by rw [hc]; simp [sizeT, hi, hl], ?_, by intro cs e; subst e; cases ho⟩
    have := Sh.view_eq _ x h
    cases hs : shOf P t with
    | agg l => exact absurd hs (ha' l)
    | _ => simp only [Sh.cells, hc]; rw [hs] at this; rw [this]

theorem sizeOf_pos {x : PV} (h : ∀ cs, x ≠ .agg cs) : 0 < x.cells.length := by cases x <;> simp [PV.cells] at h ⊢

theorem s_indexAddr (hT : TOk P) {t e : TypeId} {y z : Operand} {b : AV} {xs : List PV} {i : Int} {x : PV} (h1 : elemT P t = some e) (hy : av y = some b) (hz : av z = some (.pv (.int .i64 i))) (hl : b.list = some xs) (h0 : 0 ≤ i)
    (hx : xs[i.toNat]? = some x) (hfit : (shOf P e).fits x = true) (hn : ∃ i z, P.types[e]? = some i ∧ i.zero = some z) : Sound1 P (.indexAddr t y z) ty av (.pv (.ptr ((shOf P e).cells x))) := by
  refine .val fun G s a w o _ hA ho _ => ?_
  have hr := list_rel (hA y b hy) hl
  have hi := rep_int (hA z _ hz)
  obtain ⟨hlen, hcs, _⟩ := cells_of_fits hT hfit hn
  obtain ⟨j, zz, hj, hjz⟩ := hn
  have hlt : i.toNat < xs.length := (List.getElem?_eq_some_iff.1 hx).1
  generalize hu : a.eval y = u at hr
  cases hr with
  | lst xs A cap sz vs hsz hcap hs hone hA' hm hrr =>
    have hne : xs ≠ [] := by intro e; subst e; simp at hlt
    obtain ⟨ad, rfl⟩ : ∃ ad, A = some ad := by cases A with | none => exact absurd rfl (hA' (Nat.lt_of_lt_of_le (List.length_pos_iff.2 hne) hcap)) | some ad => exact ⟨ad, rfl⟩
    have hszT : j.size = sz := by
      have := hs x (List.mem_of_getElem? hx)
      rw [hlen] at this
      simpa [sizeT, hj] using this
    refine ⟨.pointer (some (ad.add (i.toNat * sz))), ?_, ?_⟩
    · simp only [execOp, ho, Instr.indexAt]
      have : i < (xs.length : Int) := by omega
      simp [hu, hi, asIntOf, run_underlying (elemT_eq h1), run_sizeOf' hj, h0, this, hszT]
    · rw [hcs]
      refine .ptr _ _ (fun k => vs i.toNat k) (hone x (List.mem_of_getElem? hx)) (fun k c hk => ?_) (fun k c hk => hrr _ x k c hx hk)
      rw [Addr.add_add]
      exact hm ad rfl _ x k c hx hk

theorem s_index {t : TypeId} {y z : Operand} {s : List UInt8} {i : Int} {c : UInt8} (hu : P.underlying t = some .string) (hy : av y = some (.pv (.str s))) (hz : av z = some (.pv (.int .i64 i))) (h0 : 0 ≤ i) (hc : s[i.toNat]? = some c) :
    Sound1 P (.index t y z) ty av (.pv (.int .u8 c.toNat)) := by
  refine .val fun G st a w o _ hA ho _ => ?_
  have e1 := rep_str (hA y _ hy)
  have e2 := rep_int (hA z _ hz)
  refine ⟨.int .u8 c.toNat, ?_, PRep.int _ _⟩
  have hg : (mkStr s)[i.toNat]? = some c := by
    have hl : i.toNat < s.length := (List.getElem?_eq_some_iff.1 hc).1
    have hl2 : i.toNat < (mkStr s).size := hl
    rw [getElem?_pos (mkStr s) i.toNat hl2]
    congr 1
    have := (List.getElem?_eq_some_iff.1 hc).2
    rw [← this]; rfl
  simp [execOp, ho, Instr.index, e1, e2, asIntOf, run_underlying hu, h0, hg]

theorem s_extract {y : Operand} {i : Nat} {cs : List PV} {c : PV} (hy : av y = some (.pv (.tup cs))) (hc : cs[i]? = some c) : Sound1 P (.extract y i) ty av (.pv c) := by
  refine .val fun G st a w o _ hA ho _ => ?_
  have hr := hA y _ hy
  generalize hu : a.eval y = u at hr
  cases hr with
  | tup cs vs hl hr =>
    have hi : i < vs.length := by rw [hl]; exact (List.getElem?_eq_some_iff.1 hc).1
    refine ⟨vs[i], ?_, hr i c _ hc (List.getElem?_eq_getElem hi)⟩
    simp [execOp, ho, hu, Instr.extract, hi]

theorem s_len_str {c : Call} {y : Operand} {t : TypeId} {s : List UInt8} (hc : c.callee = .builtin .len) (ha : c.args = #[y]) (ht : c.argTypes[0]? = some t) (hu : P.underlying t = some .string) (hy : av y = some (.pv (.str s))) :
    Sound1 P (.call c) ty av (.pv (.int .i64 s.length)) := by
  refine .val fun G st a w o _ hA ho _ => ⟨_, ?_, PRep.int _ _⟩
  have e1 := rep_str (hA y _ hy)
  simp [execOp, ho, resolve, hc, ha, invoke, builtin, Builtin.len_, ht, run_underlying hu, e1, goInt, size_mkStr]

theorem s_len {c : Call} {y : Operand} {t e : TypeId} {b : AV} {xs : List PV} (hc : c.callee = .builtin .len) (ha : c.args = #[y]) (ht : c.argTypes[0]? = some t) (hu : P.underlying t = some (.slice e)) (hy : av y = some b) (hl : b.list = some xs) :
    Sound1 P (.call c) ty av (.pv (.int .i64 xs.length)) := by
  refine .val fun G st a w o _ hA ho _ => ⟨_, ?_, PRep.int _ _⟩
  obtain ⟨A, c', e1⟩ := rep_lst (list_rel (hA y b hy) hl)
  simp [execOp, ho, resolve, hc, ha, invoke, builtin, Builtin.len_, ht, run_underlying hu, e1, goInt]
end
end Go.AL
