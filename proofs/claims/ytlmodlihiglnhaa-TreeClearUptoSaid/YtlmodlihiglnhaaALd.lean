/- What an operation that depends on its operands alone comes to in the machine. -/
import Derived.Test.YtlmodlihiglnhaaALc
import Derived.DataElems
set_option linter.unusedVariables false
set_option linter.unusedSimpArgs false
namespace Go.AL
open Go.RowKit

/-- The types' table, as the kernel looks it through. -/
def tOk (P : Program) : Bool :=
  P.types.toList.all fun i => match i.zero with
    | some z => Nat.beq z.cells.size i.size
    | none => true
def tAgg (P : Program) : Bool :=
  (List.range P.types.size).all fun t => match P.types[t]? with
    | some i => match i.zero with
      | some (.agg _) => (match P.underlying t with | some (.struct _) => true | some (.array ..) => true | _ => false)
      | some _ => (match P.underlying t with | some (.struct _) => false | some (.array ..) => false | some _ => true | none => false)
      | none => true
    | none => true

theorem info_of {P : Program} {t : TypeId} {i : TypeInfo} (h : P.types[t]? = some i) : P.info? t = some i := by
  have hlt := (Array.getElem?_eq_some_iff.1 h).1
  show P.toTables.info? t = _
  unfold Tables.info?
  rw [if_pos hlt]
  exact h

structure TOk (P : Program) : Prop where
  size : ∀ (t : TypeId) (i : TypeInfo) (z : Value), P.types[t]? = some i → i.zero = some z → z.cells.size = i.size
  agg : ∀ (t : TypeId) (i : TypeInfo) (cs : Array Value), P.types[t]? = some i → i.zero = some (.agg cs) → (∃ fs, P.underlying t = some (.struct fs)) ∨ ∃ n e, P.underlying t = some (.array n e)
  one : ∀ (t : TypeId) (i : TypeInfo) (z : Value), P.types[t]? = some i → i.zero = some z → (∀ cs, z ≠ .agg cs) → ∃ d, P.underlying t = some d ∧ (∀ fs, d ≠ .struct fs) ∧ ∀ n e, d ≠ .array n e

theorem TOk.of (P : Program) (h1 : tOk P = true) (h2 : tAgg P = true) : TOk P := by
  have look : ∀ (t : TypeId) (i : TypeInfo), P.types[t]? = some i → i ∈ P.types.toList ∧ t < P.types.size := by
    intro t i h
    have hlt := (Array.getElem?_eq_some_iff.1 h).1
    exact ⟨by rw [← (Array.getElem?_eq_some_iff.1 h).2]; exact Array.mem_toList_iff.2 (Array.getElem_mem hlt), hlt⟩
  have g2 : ∀ (t : TypeId) (i : TypeInfo), P.types[t]? = some i → _ := fun t i h => List.all_eq_true.1 h2 t (List.mem_range.2 (look t i h).2)
  refine ⟨fun t i z h hz => ?_, fun t i cs h hz => ?_, fun t i z h hz ho => ?_⟩
  · have := List.all_eq_true.1 h1 i (look t i h).1
    simp only [hz] at this
    exact beq_eq this
  · have := g2 t i h
    simp only [h, hz] at this
    split at this
    · rename_i fs e; exact .inl ⟨fs, e⟩
    · rename_i n e e'; exact .inr ⟨n, e, e'⟩
    · cases this
  · have := g2 t i h
    simp only [h, hz] at this
    cases hu : P.underlying t with
    | none => rw [hu] at this; cases z <;> first | exact absurd rfl (ho _) | cases this
    | some d =>
      rw [hu] at this
      refine ⟨d, rfl, fun fs e => ?_, fun n e' e => ?_⟩ <;> subst e <;> (cases z <;> first | exact absurd rfl (ho _) | cases this)

/-- An operation, performed, leaves a value, and a world, of which N holds. -/
def OpTo (P : Program) (o : Oper) (a : Act) (w : World) (N : Value → World → Prop) : Prop :=
  ∀ (next : Act → World → Prop) (Q : Exit → Act → World → Prop), (∀ u w', N u w' → next (a.put o.dst u) w') → o.wp P a w next Q

section
variable {P : Program} {o : Oper} {a : Act} {w : World} {N : Value → World → Prop}

theorem OpTo.value {u : Value} {w' : World} (h : (execOp a.eval o).run P w = .ok (.value u) w') (hN : N u w') : OpTo P o a w N := by
  intro next Q hn
  unfold Oper.wp
  rw [h]
  exact hn u w' hN

theorem OpTo.skip {w' : World} (h : (execOp a.eval o).run P w = .ok .skip w') (hN : N undef w') : OpTo P o a w N := by
  intro next Q hn
  unfold Oper.wp
  rw [h]
  exact hn undef w' hN

theorem OpTo.enter {g : FuncId} {args : Array Value} {w' : World} (h : (execOp a.eval o).run P w = .ok (.enter g args) w')
    (hc : Calls P g args w' fun e w'' => ∃ u, e = .returned u ∧ N u w'') : OpTo P o a w N := by
  intro next Q hn
  unfold Oper.wp
  rw [h]
  refine Calls.mono hc ?_
  rintro e w'' ⟨u, rfl, hu⟩
  exact hn u w'' hu

theorem OpTo.mono {N' : Value → World → Prop} (h : OpTo P o a w N) (hN : ∀ u w', N u w' → N' u w') : OpTo P o a w N' :=
  fun next Q hn => h next Q fun u w' hu => hn u w' (hN u w' hu)
end

section
variable {P : Program} {F : Nat → Prop} {w0 : World} {M0 : Mem} {G : Gh} {x : AS} {a : Act} {w : World}

theorem ofCell_rep {M : Mem} {v : Value} {p : PV} (h : ofCell v = some p) : PRep M p v ∧ p.one = true ∧ v.oneCell' = true := by
  unfold ofCell at h
  split at h <;> first | (obtain rfl := Option.some.inj h) | cases h
  · exact ⟨.int _ _, rfl, rfl⟩
  · exact ⟨.bool _, rfl, rfl⟩
  · exact ⟨by have := PRep.str (M := M) (‹ByteArray›).data.toList; simpa [mkStr] using this, rfl, rfl⟩
  · exact ⟨.nils, rfl, rfl⟩
  · exact ⟨.nilI, rfl, rfl⟩
  · exact ⟨.nilf, rfl, rfl⟩
  · exact ⟨.nilp, rfl, rfl⟩

theorem ofCells_rep {M : Mem} : ∀ {vs : List Value} {ps : List PV}, ofCells vs = some ps → ps.length = vs.length ∧ ∀ (i : Nat) p v, ps[i]? = some p → vs[i]? = some v → PRep M p v ∧ p.one = true ∧ v.oneCell' = true
  | [], ps, h => by obtain rfl := Option.some.inj h; exact ⟨rfl, fun i p v h1 _ => by simp at h1⟩
  | v :: vs, ps, h => by
    simp only [ofCells] at h
    split at h
    · rename_i p ps' hp hps
      obtain rfl := Option.some.inj h
      obtain ⟨g1, g2⟩ := ofCells_rep (M := M) hps
      refine ⟨by simp [g1], fun i q u h1 h2 => ?_⟩
      cases i with
      | zero => simp at h1 h2; subst h1; subst h2; exact ofCell_rep hp
      | succ i => exact g2 i q u (by simpa using h1) (by simpa using h2)
    · cases h

theorem PRep.weak {M : Mem} {p : PV} {v : Value} (h : PRep M p v) : PRep M p.weak v := by
  cases h <;> first | exact PRep.lst [] none 0 1 (fun _ _ => undef) (by omega) (by simp) (by simp) (by simp) (by simp) (by simp) (by simp) | (constructor <;> assumption) | assumption | skip
theorem PV.one_weak {p : PV} : p.weak.one = p.one := by cases p <;> rfl
theorem PV.weak_tup {p : PV} (h : ∀ cs, p ≠ .tup cs) : ∀ cs, p.weak ≠ .tup cs := by cases p <;> simp [PV.weak] at h ⊢

theorem ofConst_rep {M : Mem} {v : Value} {p : PV} (h : ofConst v = some p) : PRep M p v := by
  unfold ofConst at h
  split at h
  · rename_i cs
    split at h
    · rename_i ps hps
      obtain rfl := Option.some.inj h
      obtain ⟨g1, g2⟩ := ofCells_rep (M := M) hps
      have : PRep M (.agg (ps.map PV.weak)) (.agg cs.toList.toArray) := by
        refine .agg _ _ (by simp [g1]) ?_ ?_
        · intro y hy
          obtain ⟨q, hq, rfl⟩ := List.mem_map.1 hy
          obtain ⟨i, hi, rfl⟩ := List.mem_iff_getElem.1 hq
          rw [PV.one_weak]
          exact (g2 i ps[i] cs.toList[i] (List.getElem?_eq_getElem hi) (List.getElem?_eq_getElem (by omega))).2.1
        · intro i c v h1 h2
          rw [List.getElem?_map] at h1
          cases hq : ps[i]? with
          | none => rw [hq] at h1; cases h1
          | some q =>
            rw [hq] at h1
            obtain rfl := Option.some.inj h1
            exact (g2 i q v hq h2).1.weak
      simpa using this
    · cases h
  · exact (ofCell_rep h).1

theorem aval_rel (h : FRel G x.s x.t a.tmps) {y : Operand} {v : AV} (hv : aval x y = some v) : ARel G x.s v (a.eval y) := by
  cases y with
  | tmp t =>
    have hl : t < x.t.length := (List.getElem?_eq_some_iff.1 hv).1
    have hl2 : t < a.tmps.size := by rw [h.1]; exact hl
    refine h.2 t v _ hv ?_
    simp [Act.eval, Array.getD, hl2]
  | const c =>
    simp only [aval] at hv
    split at hv
    · rename_i p hp
      obtain rfl := Option.some.inj hv
      exact ofConst_rep hp
    · cases hv
  | global g => cases hv
  | func g =>
    obtain rfl := Option.some.inj hv
    exact PRep.fn g [] [] rfl (by simp)

theorem toPV_rel {s : St} {v : AV} {u : Value} {p : PV} (h : ARel G s v u) (hp : v.toPV = some p) : PRep G.M p u := by
  cases v <;> first | cases hp | (obtain rfl := Option.some.inj hp)
  · exact PRep.weak h
  · exact h.2.1

theorem list_rel {s : St} {v : AV} {u : Value} {xs : List PV} (h : ARel G s v u) (hp : v.list = some xs) : PRep G.M (.lst xs) u := by
  unfold AV.list at hp
  split at hp <;> first | cases hp | (obtain rfl := Option.some.inj hp)
  · exact h
  · exact PRep.weak h
  · exact PRep.weak (p := .nn xs) h
  · exact h.2.1

theorem rep_lst {M : Mem} {xs : List PV} {u : Value} (h : PRep M (.lst xs) u) : ∃ A c, u = .slice A xs.length c := by cases h; exact ⟨_, _, rfl⟩

theorem size_mkStr (s : List UInt8) : (mkStr s).size = s.length := rfl
theorem toList_mkStr (s : List UInt8) : (mkStr s).toList = s := by
  have : ∀ (b : ByteArray) (i : Nat) (acc : List UInt8), ByteArray.toList.loop b i acc = acc.reverse ++ b.data.toList.drop i := by
    intro b i acc
    fun_induction ByteArray.toList.loop b i acc with
    | case1 i r h ih =>
      rw [ih]
      have h' : i < b.data.toList.length := by simpa using h
      rw [List.drop_eq_getElem_cons h', List.reverse_cons, List.append_assoc]
      congr 1
      show [b.get! i] ++ _ = _
      have : b.get! i = b.data.toList[i] := by
        show b.data[i]! = _
        rw [getElem!_pos b.data i (by simpa using h)]
        simp
      rw [this]; rfl
    | case2 i r h =>
      rw [List.drop_eq_nil_of_le (by simpa using h)]
      simp
  show ByteArray.toList.loop _ 0 [] = _
  rw [this]
  simp [mkStr]
end
end Go.AL
