/- All operations that depend on their operands alone, together. -/
import Derived.Test.YtlmodlihiglnhaaALm
set_option linter.unusedVariables false
set_option linter.unusedSimpArgs false
namespace Go.AL
open Go.RowKit

theorem bif_some {ρ : Type} {c : Bool} {a : Option ρ} {r : ρ} (h : (bif c then a else none) = some r) : c = true ∧ a = some r := by
  cases c
  · cases h
  · exact ⟨rfl, h⟩
theorem bif_none {ρ : Type} {c : Bool} {a : Option ρ} {r : ρ} (h : (bif c then none else a) = some r) : c = false ∧ a = some r := by
  cases c
  · exact ⟨rfl, h⟩
  · cases h
theorem bind_some {α ρ : Type} {o : Option α} {f : α → Option ρ} {r : ρ} (h : o.bind f = some r) : ∃ a, o = some a ∧ f a = some r := by
  cases o with
  | none => cases h
  | some a => exact ⟨a, rfl, h⟩
theorem beq0 {n : Nat} (h : Nat.beq n 0 = false) : n ≠ 0 := by intro e; subst e; cases h

section
variable {P : Program} {E : Env} {av : Av} {ty : TypeId} {ρ : Type}

theorem list1 {α : Type} {l : Array α} {a : α} (h : l.toList = [a]) : l = #[a] := by
  apply Array.ext'; simpa using h
theorem list2 {α : Type} {l : Array α} {a b : α} (h : l.toList = [a, b]) : l = #[a, b] := by
  apply Array.ext'; simpa using h
theorem list3 {α : Type} {l : Array α} {a b c : α} (h : l.toList = [a, b, c]) : l = #[a, b, c] := by
  apply Array.ext'; simpa using h

theorem mapM_cons_some {l : List Operand} {bs : List AV} {b : AV} (h : l.mapM av = some (b :: bs)) : ∃ y l', l = y :: l' ∧ av y = some b ∧ l'.mapM av = some bs := by
  cases l with
  | nil => simp at h
  | cons y l =>
    rw [List.mapM_cons] at h
    cases hy : av y with
    | none => rw [hy] at h; simp at h
    | some b' =>
      cases hl : l.mapM av with
      | none => rw [hy, hl] at h; simp at h
      | some bs' =>
        rw [hy, hl] at h
        simp at h
        obtain ⟨rfl, rfl⟩ := h
        exact ⟨y, l, rfl, hy, hl⟩
theorem mapM_nil_some {l : List Operand} (h : l.mapM av = some []) : l = [] := by
  cases l with
  | nil => rfl
  | cons y l =>
    rw [List.mapM_cons] at h
    cases hy : av y with
    | none => rw [hy] at h; simp at h
    | some b' =>
      cases hl : l.mapM av with
      | none => rw [hy, hl] at h; simp at h
      | some bs' => rw [hy, hl] at h; simp at h

theorem elemT_of {t e : TypeId} (hu : P.underlying t = some (.slice e)) : elemT P t = some e := by unfold elemT; rw [hu]
theorem bound_none {y : Option Operand} (h : bound av y = some none) : y = none := by
  cases y with
  | none => rfl
  | some y => simp only [bound] at h; split at h <;> simp at h

theorem effP_sound (hT : TOk P) (hF : FOk P) (hc : CallOk P E.call) {op : Op} {dst : Option Tmp} {K : AV → Option ρ} {r : ρ} (h : effP P E av op ty dst K = some r) : ∃ v, K v = some r ∧ Sound1 P op ty av v := by
  unfold effP at h
  split at h
  · -- move
    split at h
    · rename_i v hv; exact ⟨v, h, s_move hv⟩
    · cases h
  · -- assign
    split at h
    · rename_i v hv; exact ⟨v, h, s_assign hv⟩
    · cases h
  · -- pick
    split at h
    · rename_i c hcnd
      cases c with
      | true =>
        simp only [cond_true] at h
        split at h
        · rename_i v hv; exact ⟨v, h, s_pick hcnd hv⟩
        · cases h
      | false =>
        simp only [cond_false] at h
        split at h
        · rename_i v hv; exact ⟨v, h, s_pick hcnd hv⟩
        · cases h
    · cases h
  · -- build
    split at h
    · rename_i pl z ps h1 h2 h3
      split at h
      · rename_i cs h4; exact ⟨_, h, s_build hT h1 h2 h3 h4⟩
      · cases h
    · cases h
  · -- buildSlice
    split at h
    · rename_i e he
      split at h
      · rename_i z ps hz hps
        obtain ⟨h1, h⟩ := bif_some h
        split at h
        · rename_i xs hxs
          simp only [Bool.and_eq_true] at h1
          exact ⟨_, h, s_buildSlice hT he hz hps (Nat.le_of_ble_eq_true h1.1) (blt_lt h1.2) hxs⟩
        · cases h
      · cases h
    · cases h
  · -- nilCheck
    split at h
    · rename_i i off hv; exact ⟨_, h, s_nilCheck hv (.inl ⟨_, _, rfl⟩)⟩
    · rename_i cs hv; exact ⟨_, h, s_nilCheck hv (.inr (.inl ⟨_, rfl⟩))⟩
    · rename_i g cap hv; exact ⟨_, h, s_nilCheck hv (.inr (.inr ⟨_, _, rfl⟩))⟩
    · cases h
  · -- binOp
    split at h
    · rename_i a b ha hb
      obtain ⟨res, g1, g2⟩ := s_bin ha hb (fun _ _ _ q => q) (fun _ _ _ q => q) h
      exact ⟨_, g1, g2⟩
    · rename_i xs b ha hb
      obtain ⟨res, g1, g2⟩ := s_bin ha hb (fun _ _ _ q => q.2.1) (fun _ _ _ q => q) h
      exact ⟨_, g1, g2⟩
    · cases h
  · -- unOp
    split at h
    · rename_i a ha
      obtain ⟨res, g1, g2⟩ := s_un ha h
      exact ⟨_, g1, g2⟩
    · cases h
  · -- convert
    split at h
    · rename_i a ha
      obtain ⟨res, g1, g2⟩ := s_conv hT ha (fun _ _ _ q => PRep.weak q) h
      exact ⟨_, g1, g2⟩
    · rename_i xs ha
      obtain ⟨res, g1, g2⟩ := s_conv hT ha (fun _ _ _ q => q.2.1) h
      exact ⟨_, g1, g2⟩
    · cases h
  · -- fieldAddr
    split at h
    · rename_i fs hfs
      split at h
      · rename_i fd hfd
        obtain ⟨h0, h⟩ := bif_none h
        have hn := beq0 h0
        cases hj : P.types[fd.type]? with
        | none => exact absurd (by simp [sizeT, hj]) hn
        | some j =>
          have hz : j.size ≠ 0 := by simpa [sizeT, hj] using hn
          obtain ⟨k1, k2, k3⟩ := s_fieldAddr (P := P) (av := av) (ty := ty) (y := ‹Operand›) hfs hfd hj hz
          split at h
          · rename_i cs hv; exact ⟨_, h, k1 _ hv⟩
          · rename_i b off hv; exact ⟨_, h, k2 _ _ hv⟩
          · rename_i b v j' k hv; exact ⟨_, h, k3 _ _ _ _ hv⟩
          · cases h
      · cases h
    · cases h
  · -- field
    split at h
    · rename_i fs hfs
      split at h
      · rename_i fd cs hfd hcs
        split at h
        · cases h
        · rename_i z hz
          obtain ⟨k1, k2⟩ := s_field (P := P) (av := av) (ty := ty) hT hfs hfd hcs hz
          split at h
          · rename_i n hn
            obtain ⟨h1, h⟩ := bif_some h
            exact ⟨_, h, k1 n hn (Nat.le_of_ble_eq_true h1)⟩
          · rename_i hn
            split at h
            · rename_i c hcc; exact ⟨_, h, k2 c hn hcc⟩
            · cases h
      · cases h
    · cases h
  · -- indexAddr
    split at h
    · rename_i e a i he ha hi
      split at h
      · rename_i xs z hxs hz
        obtain ⟨h0, h⟩ := bif_some h
        obtain ⟨x, hx, h⟩ := bind_some h
        obtain ⟨hf, h⟩ := bif_some h
        obtain ⟨j, hj, zv, hzv⟩ := zero_size hT hz
        exact ⟨_, h, s_indexAddr hT he ha hi hxs (of_decide_eq_true h0) hx hf ⟨j, zv, hj, hzv⟩⟩
      · cases h
    · cases h
  · -- index
    split at h
    · rename_i s i hu hs hi
      obtain ⟨h0, h⟩ := bif_some h
      obtain ⟨c, hcc, h⟩ := bind_some h
      exact ⟨_, h, s_index hu hs hi (of_decide_eq_true h0) hcc⟩
    · cases h
  · -- extract
    split at h
    · rename_i cs hcs
      split at h
      · rename_i c hcc; exact ⟨_, h, s_extract hcs hcc⟩
      · cases h
    · cases h
  · -- slice
    split at h
    · cases h
    · split at h
      · rename_i hu
        split at h
        · rename_i s lo hi hs hlo hhi
          obtain ⟨hb, h⟩ := sliceS_eq h
          exact ⟨_, h, s_slice_str hu hs hlo hhi hb⟩
        · cases h
      · rename_i e hu
        have he := elemT_of hu
        split at h
        · cases h
        · rename_i z hz
          split at h
          · rename_i i v xs lo hxs hlo hhi
            obtain ⟨hok, h⟩ := bif_some h
            obtain ⟨hb, h⟩ := sliceL_eq h
            have hn := bound_none hhi
            subst hn
            rw [show hi0 none xs.length = xs.length by simp [hi0], List.take_length] at h
            exact ⟨_, h, s_slice_bld hT he hz hxs hlo hok hb⟩
          · rename_i b lo hi _ hb hlo hhi
            split at h
            · rename_i xs hxs
              obtain ⟨hok, h⟩ := bif_some h
              obtain ⟨hbd, h⟩ := sliceL_eq h
              exact ⟨_, h, s_slice hT he hz hb hlo hhi hxs hok hbd⟩
            · cases h
          · cases h
      · cases h
  · -- makeFunc
    obtain ⟨hf, h⟩ := bif_some h
    split at h
    · rename_i l hl
      split at h
      · rename_i ps hps; exact ⟨_, h, s_makeFunc hf hl hps⟩
      · cases h
    · cases h
  · -- call
    rename_i c
    split at h
    · rename_i hcal
      split at h
      · rename_i a t ha ht
        have ht' : c.argTypes[0]? = some t := by rw [list1 ht]; rfl
        split at h
        · rename_i s hu hs; exact ⟨_, h, s_len_str hcal (list1 ha) ht' hu hs⟩
        · rename_i e v hu hv
          split at h
          · rename_i xs hxs; exact ⟨_, h, s_len hcal (list1 ha) ht' hu hv hxs⟩
          · cases h
        · cases h
      · cases h
    · rename_i hcal
      split at h
      · rename_i k x k' y hm
        obtain ⟨_, h⟩ := bif_some h
        obtain ⟨y1, l1, e1, a1, m1⟩ := mapM_cons_some hm
        obtain ⟨y2, l2, e2, a2, m2⟩ := mapM_cons_some m1
        have e3 := mapM_nil_some m2
        subst e3; subst e2
        exact ⟨_, h, s_max2 hcal (list2 e1) a1 a2⟩
      · rename_i k x k' y k'' z hm
        obtain ⟨_, h⟩ := bif_some h
        obtain ⟨y1, l1, e1, a1, m1⟩ := mapM_cons_some hm
        obtain ⟨y2, l2, e2, a2, m2⟩ := mapM_cons_some m1
        obtain ⟨y3, l3, e3, a3, m3⟩ := mapM_cons_some m2
        have e4 := mapM_nil_some m3
        subst e4; subst e3; subst e2
        exact ⟨_, h, s_max3 hcal (list3 e1) a1 a2 a3⟩
      · cases h
    · rename_i hcal
      split at h
      · rename_i k x k' y hm
        obtain ⟨_, h⟩ := bif_some h
        obtain ⟨y1, l1, e1, a1, m1⟩ := mapM_cons_some hm
        obtain ⟨y2, l2, e2, a2, m2⟩ := mapM_cons_some m1
        have e3 := mapM_nil_some m2
        subst e3; subst e2
        exact ⟨_, h, s_min2 hcal (list2 e1) a1 a2⟩
      · cases h
    · cases h
    · cases h
    · rename_i y hcal
      split at h
      · rename_i g l hg hl
        split at h
        · rename_i ps hps
          obtain ⟨r', hr', h2⟩ := bind_some h
          obtain ⟨hfit, h3⟩ := bif_some h2
          rw [Sh.view_eq _ _ hfit] at h3
          clear h h2
          unfold Env.callP at hr'
          split at hr'
          · rename_i f' cap
            exact ⟨_, h3, s_call hF hc hcal hg hl hps hr'⟩
          · cases hr'
        · cases h
      · cases h
  · cases h
end
end Go.AL
