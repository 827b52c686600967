/- Operations that depend on their operands alone: those that leave memory as it is. -/
import Derived.Test.YtlmodlihiglnhaaALd
set_option linter.unusedVariables false
set_option linter.unusedSimpArgs false
namespace Go.AL
open Go.RowKit

abbrev Av := Operand → Option AV
def Avs (av : Av) (G : Gh) (s : St) (a : Act) : Prop := ∀ y b, av y = some b → ARel G s b (a.eval y)

/-- The operation, at whatever state its operands are related, leaves this value. -/
def Sound1 (P : Program) (op : Op) (ty : TypeId) (av : Av) (v : AV) : Prop :=
  ∀ (F : Nat → Prop) (w0 : World) (M0 : Mem) (G : Gh) (s : St) (a : Act) (w : World) (o : Oper), SRel F w0 M0 G s w → Avs av G s a → o.op = op → o.type = ty →
    OpTo P o a w fun u w' => ∃ G', SRel F w0 M0 G' s w' ∧ Ext G s G' s ∧ ARel G' s v u

theorem Sound1.val {P : Program} {op : Op} {ty : TypeId} {av : Av} {v : AV}
    (f : ∀ (G : Gh) (s : St) (a : Act) (w : World) (o : Oper), (∀ ad u, G.M ad = some u → w.cell? ad = some u) → Avs av G s a → o.op = op → o.type = ty → ∃ u, (execOp a.eval o).run P w = .ok (.value u) w ∧ ARel G s v u) : Sound1 P op ty av v := by
  intro F w0 M0 G s a w o hS hA ho ht
  obtain ⟨u, h1, h2⟩ := f G s a w o hS.agree hA ho ht
  exact OpTo.value h1 ⟨G, hS, Ext.refl _ _, h2⟩

section
variable {P : Program} {av : Av} {ty : TypeId}

theorem s_move {y : Operand} {v : AV} (h : av y = some v) : Sound1 P (.move y) ty av v :=
  .val fun G s a w o _ hA ho _ => ⟨a.eval y, by simp [execOp, ho], hA y v h⟩
theorem s_assign {y : Operand} {v : AV} (h : av y = some v) : Sound1 P (.assign y) ty av v :=
  .val fun G s a w o _ hA ho _ => ⟨a.eval y, by simp [execOp, ho], hA y v h⟩

theorem rep_bool {M : Mem} {b : Bool} {u : Value} (h : PRep M (.bool b) u) : u = .bool b := by cases h; rfl
theorem rep_int {M : Mem} {k : IntKind} {n : Int} {u : Value} (h : PRep M (.int k n) u) : u = .int k n := by cases h; rfl
theorem rep_str {M : Mem} {s : List UInt8} {u : Value} (h : PRep M (.str s) u) : u = .string (mkStr s) := by cases h; rfl

theorem s_pick {c y z : Operand} {b : Bool} {v : AV} (hc : av c = some (.pv (.bool b))) (h : (bif b then av y else av z) = some v) : Sound1 P (.pick c y z) ty av v :=
  .val fun G s a w o _ hA ho _ => by
    have := rep_bool (hA c _ hc)
    cases b
    · exact ⟨a.eval z, by simp [execOp, ho, this, asBool], hA z v h⟩
    · exact ⟨a.eval y, by simp [execOp, ho, this, asBool], hA y v h⟩

theorem rep_ptr {M : Mem} {cs : List PV} {u : Value} (h : PRep M (.ptr cs) u) : ∃ (ad : Addr) (vs : Nat → Value), u = .pointer (some ad) ∧ (∀ y, y ∈ cs → y.one = true) ∧ (∀ (k : Nat) c, cs[k]? = some c → M (ad.add k) = some (vs k)) ∧
    ∀ (k : Nat) c, cs[k]? = some c → PRep M c (vs k) := by
  cases h with
  | ptr cs ad vs ho hm hr => exact ⟨ad, vs, rfl, ho, hm, hr⟩
theorem rep_fn {M : Mem} {g : FuncId} {cap : List PV} {u : Value} (h : PRep M (.fn g cap) u) : ∃ vs : List Value, u = .func (.func g) #[] vs.toArray ∧ vs.length = cap.length ∧ ∀ (i : Nat) c v, cap[i]? = some c → vs[i]? = some v → PRep M c v := by
  cases h with
  | fn f cap vs hl hr => exact ⟨vs, rfl, hl, hr⟩

theorem s_nilCheck {y : Operand} {v : AV} (h : av y = some v) (hv : (∃ i off, v = .box i off) ∨ (∃ cs, v = .pv (.ptr cs)) ∨ ∃ g cap, v = .pv (.fn g cap)) : Sound1 P (.nilCheck y) ty av v :=
  .val fun G s a w o _ hA ho _ => by
    have := hA y v h
    rcases hv with ⟨i, off, rfl⟩ | ⟨cs, rfl⟩ | ⟨g, cap, rfl⟩
    · obtain ⟨_, b, _, e⟩ := this
      exact ⟨_, by simp [execOp, ho, e]; rfl, hA y _ h |> fun q => by rw [e] at q; exact q⟩
    · obtain ⟨ad, _, e, _⟩ := rep_ptr this
      exact ⟨_, by simp [execOp, ho, e]; rfl, by rw [e] at this; exact this⟩
    · obtain ⟨vs, e, _⟩ := rep_fn this
      exact ⟨_, by simp [execOp, ho, e]; rfl, by rw [e] at this; exact this⟩

theorem execOp_bin {a : Act} {o : Oper} {op : BinOp} {t t' : TypeId} {y z : Operand} (ho : o.op = .binOp op t y z t') (w : World) {u : Value}
    (hg : (eqGuard op t y z (a.eval y) (a.eval z)).run P w = .ok () w) (hr : (binOp op t (a.eval y) (a.eval z)).run P w = .ok u w) : (execOp a.eval o).run P w = .ok (.value u) w := by
  simp [execOp, ho, hg, hr]

theorem run_eqGuard_of {op : BinOp} {t : TypeId} {y z : Operand} {u v : Value} (w : World) (h : u ≠ .nilIface ∧ ∀ cs, u ≠ .agg cs) : (eqGuard op t y z u v).run P w = .ok () w := by
  cases u <;> first | exact absurd rfl h.1 | exact absurd rfl (h.2 _) | (cases op <;> rfl)

theorem run_intArith {op : BinOp} {k : IntKind} {x y : Int} (w : World) : (binOp op 0 (.int k x) (.int k y)).run P w = (binOp op 0 (.int k x) (.int k y)).run P w := rfl

theorem binI_sound {ρ : Type} {op : BinOp} {k : IntKind} {x y : Int} {K : PV → Option ρ} {r : ρ} (h : binI op k x y K = some r) (hs : op ≠ .shl ∧ op ≠ .shr) :
    ∃ p, K p = some r ∧ ∀ (M : Mem) (t : TypeId) (w : World), ∃ u, (binOp op t (.int k x) (.int k y)).run P w = .ok u w ∧ PRep M p u := by
  cases op <;> simp only [binI] at h <;> first
    | (exact absurd rfl hs.1)
    | (exact absurd rfl hs.2)
    | (refine ⟨_, h, fun M t w => ⟨_, ?_, PRep.int _ _⟩⟩; simp [binOp, Op.intArith, Op.intBits, Op.intCmp]; done)
    | (refine ⟨_, h, fun M t w => ⟨_, ?_, PRep.bool _⟩⟩; simp [binOp, Op.intArith, Op.intBits, Op.intCmp]; done)
    | skip
  · by_cases h0 : y = 0
    · simp [h0] at h
    · simp [h0] at h
      refine ⟨_, h, fun M t w => ⟨_, ?_, PRep.int _ _⟩⟩
      simp [binOp, Op.intDiv, h0]
  · by_cases h0 : y = 0
    · simp [h0] at h
    · simp [h0] at h
      refine ⟨_, h, fun M t w => ⟨_, ?_, PRep.int _ _⟩⟩
      simp [binOp, Op.intDiv, h0]

theorem mkStr_append (x y : List UInt8) : mkStr x ++ mkStr y = mkStr (x ++ y) := by
  apply ByteArray.ext
  simp [mkStr, ByteArray.data_append]

theorem binS_sound {ρ : Type} {op : BinOp} {x y : List UInt8} {K : PV → Option ρ} {r : ρ} (h : binS op x y K = some r) (hs : op ≠ .shl ∧ op ≠ .shr) :
    ∃ p, K p = some r ∧ ∀ (M : Mem) (t : TypeId) (w : World), ∃ u, (binOp op t (.string (mkStr x)) (.string (mkStr y))).run P w = .ok u w ∧ PRep M p u := by
  cases op <;> simp only [binS] at h <;> first
    | (exact absurd rfl hs.1)
    | (exact absurd rfl hs.2)
    | (cases h; done)
    | (refine ⟨_, h, fun M t w => ⟨_, ?_, PRep.bool _⟩⟩; simp [binOp, Op.stringOp, toList_mkStr]; done)
    | skip
  cases hd : decide (x.length + y.length ≤ 2147483648) with
  | false => rw [hd] at h; cases h
  | true =>
    rw [hd] at h
    have hl := of_decide_eq_true hd
    refine ⟨_, h, fun M t w => ⟨_, ?_, PRep.str _⟩⟩
    have hle : ¬ (((mkStr x).size + (mkStr y).size : Nat) : Int) > IntKind.i64.max := by
      rw [size_mkStr, size_mkStr]
      show ¬ _ > (9223372036854775807 : Int)
      omega
    simp only [binOp, Op.stringOp]
    rw [if_neg hle, mkStr_append]
    rfl

theorem some?_eq {xs : List PV} {b : Bool} (h : some? xs = some b) : xs ≠ [] := by cases xs <;> simp [some?] at h ⊢


theorem rep_nils {M : Mem} {u : Value} (h : PRep M .nils u) : u = .slice none 0 0 := by cases h; rfl

theorem rep_lst_ne {M : Mem} {xs : List PV} {u : Value} (h : PRep M (.lst xs) u) (hn : xs ≠ []) : ∃ ad c, u = .slice (some ad) xs.length c := by
  cases h with
  | lst xs A cap sz vs hsz hcap hs ho hA hm hr =>
    have := hA (Nat.lt_of_lt_of_le (List.length_pos_iff.2 hn) hcap)
    cases A with
    | none => exact absurd rfl this
    | some ad => exact ⟨ad, cap, rfl⟩

theorem rep_nn {M : Mem} {xs : List PV} {u : Value} (h : PRep M (.nn xs) u) : ∃ ad n c, u = .slice (some ad) n c := by cases h; exact ⟨_, _, _, rfl⟩

theorem isSl_eq {d : Option TypeDesc} (h : isSl d = true) : ∃ e, d = some (.slice e) := by
  unfold isSl at h; split at h <;> first | exact ⟨_, rfl⟩ | cases h
theorem isBo_eq {d : Option TypeDesc} (h : isBo d = true) : d = some .bool := by
  unfold isBo at h; split at h <;> first | rfl | cases h

theorem run_equal_bool {t : TypeId} (ht : P.underlying t = some .bool) (x y : Bool) (w : World) : (Op.equal t (.bool x) (.bool y)).run P w = .ok (x == y) w := by
  have : ∀ d, (Op.equalIn (d + 1) t (.bool x) (.bool y)).run P w = .ok (x == y) w := fun d => by simp [Op.equalIn, run_underlying ht]
  exact this 9999
theorem run_equal_nil {t e : TypeId} (ht : P.underlying t = some (.slice e)) (A : Option Addr) (n c : Nat) (w : World) : (Op.equal t (.slice A n c) (.slice none 0 0)).run P w = .ok A.isNone w := by
  have : ∀ d, (Op.equalIn (d + 1) t (.slice A n c) (.slice none 0 0)).run P w = .ok A.isNone w := fun d => by cases A <;> simp [Op.equalIn, run_underlying ht]
  exact this 9999

theorem binPV_sound {ρ : Type} {t : TypeId} {op : BinOp} {p q : PV} {K : PV → Option ρ} {r : ρ} (h : binPV (P.underlying t) op p q K = some r) :
    ∃ res, K res = some r ∧ ∀ (M : Mem) (w : World) (u v : Value), PRep M p u → PRep M q v → (∃ z, (binOp op t u v).run P w = .ok z w ∧ PRep M res z) ∧ u ≠ .nilIface ∧ ∀ cs, u ≠ .agg cs := by
  unfold binPV at h
  split at h
  · rename_i k x k' y
    cases hd : decide (0 ≤ y) with
    | false => rw [hd] at h; cases h
    | true =>
      rw [hd] at h
      have hy := of_decide_eq_true hd
      refine ⟨_, h, fun M w u v hu hv => ?_⟩
      rw [rep_int hu, rep_int hv]
      refine ⟨⟨_, ?_, PRep.int _ _⟩, by simp, by simp⟩
      simp [binOp, Op.shift, show ¬ y < 0 by omega]
  · rename_i k x k' y
    cases hd : decide (0 ≤ y) with
    | false => rw [hd] at h; cases h
    | true =>
      rw [hd] at h
      have hy := of_decide_eq_true hd
      refine ⟨_, h, fun M w u v hu hv => ?_⟩
      rw [rep_int hu, rep_int hv]
      refine ⟨⟨_, ?_, PRep.int _ _⟩, by simp, by simp⟩
      simp [binOp, Op.shift, show ¬ y < 0 by omega]
  · rename_i k x k' y hn1 hn2
    cases hd : decide (k = k') with
    | false => rw [hd] at h; cases h
    | true =>
      rw [hd] at h
      obtain rfl := of_decide_eq_true hd
      obtain ⟨res, g1, g2⟩ := binI_sound (P := P) h ⟨fun e => by subst e; exact hn1 rfl, fun e => by subst e; exact hn2 rfl⟩
      refine ⟨res, g1, fun M w u v hu hv => ?_⟩
      rw [rep_int hu, rep_int hv]
      exact ⟨g2 M t w, by simp, by simp⟩
  · rename_i x y
    by_cases hs : op ≠ .shl ∧ op ≠ .shr
    · obtain ⟨res, g1, g2⟩ := binS_sound (P := P) h hs
      refine ⟨res, g1, fun M w u v hu hv => ?_⟩
      rw [rep_str hu, rep_str hv]
      exact ⟨g2 M t w, by simp, by simp⟩
    · cases op <;> first | exact absurd ⟨by decide, by decide⟩ hs | cases h
  · rename_i x y
    cases hd : isBo (P.underlying t) with
    | false => rw [hd] at h; cases h
    | true =>
      rw [hd] at h
      refine ⟨_, h, fun M w u v hu hv => ?_⟩
      rw [rep_bool hu, rep_bool hv]
      refine ⟨⟨_, ?_, PRep.bool _⟩, by simp, by simp⟩
      simp [binOp, run_equal_bool (isBo_eq hd)]
  · rename_i x y
    cases hd : isBo (P.underlying t) with
    | false => rw [hd] at h; cases h
    | true =>
      rw [hd] at h
      refine ⟨_, h, fun M w u v hu hv => ?_⟩
      rw [rep_bool hu, rep_bool hv]
      refine ⟨⟨_, ?_, PRep.bool _⟩, by simp, by simp⟩
      simp [binOp, run_equal_bool (isBo_eq hd)]
  · cases hd : isSl (P.underlying t) with
    | false => rw [hd] at h; cases h
    | true =>
      rw [hd] at h
      obtain ⟨e, he⟩ := isSl_eq hd
      refine ⟨_, h, fun M w u v hu hv => ?_⟩
      rw [rep_nils hu, rep_nils hv]
      refine ⟨⟨_, ?_, PRep.bool _⟩, by simp, by simp⟩
      simp [binOp, run_equal_nil he]
  · cases hd : isSl (P.underlying t) with
    | false => rw [hd] at h; cases h
    | true =>
      rw [hd] at h
      obtain ⟨e, he⟩ := isSl_eq hd
      refine ⟨_, h, fun M w u v hu hv => ?_⟩
      rw [rep_nils hu, rep_nils hv]
      refine ⟨⟨_, ?_, PRep.bool _⟩, by simp, by simp⟩
      simp [binOp, run_equal_nil he]
  · rename_i xs
    cases hd : isSl (P.underlying t) with
    | false => rw [hd] at h; cases h
    | true =>
      rw [hd] at h
      obtain ⟨e, he⟩ := isSl_eq hd
      cases hx : some? xs with
      | none => rw [hx] at h; cases h
      | some b =>
        rw [hx] at h
        refine ⟨_, h, fun M w u v hu hv => ?_⟩
        obtain ⟨ad, c, rfl⟩ := rep_lst_ne hu (some?_eq hx)
        rw [rep_nils hv]
        refine ⟨⟨_, ?_, PRep.bool _⟩, by simp, by simp⟩
        simp [binOp, run_equal_nil he]
  · rename_i xs
    cases hd : isSl (P.underlying t) with
    | false => rw [hd] at h; cases h
    | true =>
      rw [hd] at h
      obtain ⟨e, he⟩ := isSl_eq hd
      cases hx : some? xs with
      | none => rw [hx] at h; cases h
      | some b =>
        rw [hx] at h
        refine ⟨_, h, fun M w u v hu hv => ?_⟩
        obtain ⟨ad, c, rfl⟩ := rep_lst_ne hu (some?_eq hx)
        rw [rep_nils hv]
        refine ⟨⟨_, ?_, PRep.bool _⟩, by simp, by simp⟩
        simp [binOp, run_equal_nil he]
  · rename_i xs
    cases hd : isSl (P.underlying t) with
    | false => rw [hd] at h; cases h
    | true =>
      rw [hd] at h
      obtain ⟨e, he⟩ := isSl_eq hd
      refine ⟨_, h, fun M w u v hu hv => ?_⟩
      obtain ⟨ad, n, c, rfl⟩ := rep_nn hu
      rw [rep_nils hv]
      refine ⟨⟨_, ?_, PRep.bool _⟩, by simp, by simp⟩
      simp [binOp, run_equal_nil he]
  · rename_i xs
    cases hd : isSl (P.underlying t) with
    | false => rw [hd] at h; cases h
    | true =>
      rw [hd] at h
      obtain ⟨e, he⟩ := isSl_eq hd
      refine ⟨_, h, fun M w u v hu hv => ?_⟩
      obtain ⟨ad, n, c, rfl⟩ := rep_nn hu
      rw [rep_nils hv]
      refine ⟨⟨_, ?_, PRep.bool _⟩, by simp, by simp⟩
      simp [binOp, run_equal_nil he]
  · cases h

theorem s_bin {ρ : Type} {op : BinOp} {t t' : TypeId} {y z : Operand} {a b : AV} {p q : PV} (hy : av y = some a) (hz : av z = some b) (hp : ∀ G s u, ARel G s a u → PRep G.M p u) (hq : ∀ G s u, ARel G s b u → PRep G.M q u) {K : PV → Option ρ} {r : ρ}
    (h : binPV (P.underlying t) op p q K = some r) : ∃ res, K res = some r ∧ Sound1 P (.binOp op t y z t') ty av (.pv res) := by
  obtain ⟨res, g1, g2⟩ := binPV_sound (P := P) h
  refine ⟨res, g1, .val fun G s a' w o _ hA ho _ => ?_⟩
  obtain ⟨⟨x, h1, h2⟩, h3, h4⟩ := g2 G.M w _ _ (hp G s _ (hA y _ hy)) (hq G s _ (hA z _ hz))
  exact ⟨x, execOp_bin ho w (run_eqGuard_of w ⟨h3, h4⟩) h1, h2⟩

theorem s_un {ρ : Type} {op : UnOp} {t : TypeId} {y : Operand} {p : PV} (hy : av y = some (.pv p)) {K : PV → Option ρ} {r : ρ} (h : unPV op p K = some r) : ∃ res, K res = some r ∧ Sound1 P (.unOp op t y) ty av (.pv res) := by
  unfold unPV at h
  split at h
  · refine ⟨_, h, .val fun G s a w o _ hA ho _ => ?_⟩
    have := rep_bool (hA y _ hy)
    exact ⟨_, by simp [execOp, ho, this, Op.unary], PRep.bool _⟩
  · refine ⟨_, h, .val fun G s a w o _ hA ho _ => ?_⟩
    have := rep_int (hA y _ hy)
    exact ⟨_, by simp [execOp, ho, this, Op.unary, Op.intArith], PRep.int _ _⟩
  · cases h

theorem s_fieldAddr {t : TypeId} {y : Operand} {i : Nat} {fs : Array Field} {fd : Field} (ht : P.underlying t = some (.struct fs)) (hf : fs[i]? = some fd) {j : TypeInfo} (hj : P.types[fd.type]? = some j) (hz : j.size ≠ 0) :
    (∀ cs, av y = some (.pv (.ptr cs)) → Sound1 P (.fieldAddr t y i) ty av (.pv (.ptr (cs.drop fd.offset)))) ∧
    (∀ b off, av y = some (.box b off) → Sound1 P (.fieldAddr t y i) ty av (.box b (off + fd.offset))) ∧
    (∀ b v j' k, av y = some (.elt b v j' k) → Sound1 P (.fieldAddr t y i) ty av (.elt b v j' (k + fd.offset))) := by
  have run : ∀ (a : Act) (o : Oper) (w : World) (ad : Addr), a.eval y = .pointer (some ad) → o.op = .fieldAddr t y i → (execOp a.eval o).run P w = .ok (.value (.pointer (some (ad.add fd.offset)))) w := by
    intro a o w ad he ho
    simp [execOp, ho, Instr.fieldAt, run_underlying ht, hf, he, Instr.sureAddr, fieldPlace, sizeOf, typeInfo, info_of hj, hz]
  refine ⟨fun cs hy => .val fun G s a w o _ hA ho _ => ?_, fun b off hy => .val fun G s a w o _ hA ho _ => ?_, fun b v j' k hy => ?_⟩
  · obtain ⟨ad, vs, e, g1, g2, g3⟩ := rep_ptr (hA y _ hy)
    refine ⟨_, run a o w ad e ho, .ptr _ _ (fun k => vs (fd.offset + k)) (fun z hz => g1 z (List.mem_of_mem_drop hz)) (fun k c hk => ?_) (fun k c hk => ?_)⟩
    · rw [List.getElem?_drop] at hk
      rw [Addr.add_add]
      exact g2 _ c hk
    · rw [List.getElem?_drop] at hk
      exact g3 _ c hk
  · obtain ⟨hi, bl, e1, e⟩ := hA y _ hy
    refine ⟨_, run a o w _ e ho, hi, bl, e1, by rw [Addr.add_lit]⟩
  · intro F w0 M0 G s a w o hS hA ho _
    obtain ⟨hi, ⟨q, hq⟩, hv⟩ := hA y _ hy
    refine OpTo.value (run a o w q hq ho) ⟨G, hS, Ext.refl _ _, hi, ⟨_, rfl⟩, fun cur xs e => ⟨(hv cur xs e).1, fun hc => ?_⟩⟩
    obtain ⟨ad, g1, g2⟩ := (hv cur xs e).2 hc
    refine ⟨ad, g1, ?_⟩
    rw [hq] at g2
    injection g2 with g2
    injection g2 with g2
    rw [g2, Addr.add_add, Nat.add_assoc]
end
end Go.AL
