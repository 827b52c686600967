/- slices.SortFunc of what unknowns are: the order, and what a sorted permutation is. -/
import Derived.Test.YtlmodlihiglnhaaS4SortP
import Derived.Lib.Bytealg
set_option linter.unusedVariables false
set_option linter.unusedSimpArgs false
namespace Go.AL.S4
open Go Go.AL

theorem cb_refl : ∀ a : List UInt8, Lib.compareBytes a a = 0
  | [] => rfl
  | a :: l => by
    have h : ¬ a < a := fun h => absurd (UInt8.lt_iff_toNat_lt.1 h) (Nat.lt_irrefl _)
    unfold Lib.compareBytes
    rw [if_neg h, if_neg h]; exact cb_refl l
theorem cb_zero : ∀ {a b : List UInt8}, Lib.compareBytes a b = 0 → a = b
  | [], [], _ => rfl
  | [], _ :: _, h => by simp [Lib.compareBytes] at h
  | _ :: _, [], h => by simp [Lib.compareBytes] at h
  | a :: l, b :: m, h => by
    unfold Lib.compareBytes at h
    split at h
    · cases h
    · split at h
      · cases h
      · rename_i h1 h2
        have e : a = b := UInt8.toNat_inj.1 (by rw [UInt8.lt_iff_toNat_lt] at h1 h2; omega)
        rw [e, cb_zero h]
theorem cb_anti : ∀ (a b : List UInt8), Lib.compareBytes a b = - Lib.compareBytes b a
  | [], [] => rfl
  | [], _ :: _ => by simp [Lib.compareBytes]
  | _ :: _, [] => by simp [Lib.compareBytes]
  | a :: l, b :: m => by
    unfold Lib.compareBytes
    by_cases h1 : a < b
    · have h2 : ¬ b < a := fun h => by rw [UInt8.lt_iff_toNat_lt] at h1 h; omega
      rw [if_pos h1, if_neg h2, if_pos h1]
    · by_cases h2 : b < a
      · rw [if_neg h1, if_pos h2, if_pos h2]; rfl
      · rw [if_neg h1, if_neg h2, if_neg h2, if_neg h1]; exact cb_anti l m
theorem cb_trans : ∀ {a b c : List UInt8}, Lib.compareBytes a b < 0 → Lib.compareBytes b c < 0 → Lib.compareBytes a c < 0
  | [], [], _, h, _ => by simp [Lib.compareBytes] at h
  | [], _ :: _, [], _, h => by simp [Lib.compareBytes] at h
  | [], _ :: _, _ :: _, _, _ => by simp [Lib.compareBytes]
  | _ :: _, [], _, h, _ => by simp [Lib.compareBytes] at h
  | _ :: _, _ :: _, [], _, h => by simp [Lib.compareBytes] at h
  | a :: l, b :: m, c :: n, h1, h2 => by
    unfold Lib.compareBytes at h1 h2 ⊢
    simp only [UInt8.lt_iff_toNat_lt] at h1 h2 ⊢
    by_cases ab : a.toNat < b.toNat
    · by_cases bc : b.toNat < c.toNat
      · rw [if_pos (by omega)]; omega
      · rw [if_neg bc] at h2
        by_cases cb : c.toNat < b.toNat
        · rw [if_pos cb] at h2; omega
        · rw [if_pos (by omega)]; omega
    · rw [if_neg ab] at h1
      by_cases ba : b.toNat < a.toNat
      · rw [if_pos ba] at h1; omega
      · rw [if_neg ba] at h1
        by_cases bc : b.toNat < c.toNat
        · rw [if_pos (by omega)]; omega
        · rw [if_neg bc] at h2
          by_cases cb : c.toNat < b.toNat
          · rw [if_pos cb] at h2; omega
          · rw [if_neg cb] at h2
            rw [if_neg (by omega), if_neg (by omega)]
            exact cb_trans h1 h2
theorem cb_le {a b : List UInt8} : ¬ Lib.compareBytes a b < 0 ↔ Lib.compareBytes b a ≤ 0 := by
  rw [cb_anti a b]; omega
theorem cb_ntrans {a b c : List UInt8} (h1 : ¬ Lib.compareBytes a b < 0) (h2 : ¬ Lib.compareBytes b c < 0) : ¬ Lib.compareBytes a c < 0 := by
  intro h
  rw [cb_le] at h1 h2
  by_cases e : Lib.compareBytes b a = 0
  · rw [cb_zero e] at h2; rw [cb_anti] at h; omega
  · by_cases e2 : Lib.compareBytes c b = 0
    · rw [cb_zero e2] at h; rw [cb_anti] at h; omega
    · have := cb_trans (show Lib.compareBytes c b < 0 by omega) (show Lib.compareBytes b a < 0 by omega)
      rw [cb_anti] at h; omega

/-! #### The sorted list -/
def ltB (a b : PV) : Bool := decide (Lib.compareBytes (bname a) (bname b) < 0)
theorem leB_eq (a b : PV) : leB a b = !ltB b a := rfl
theorem insB_perm (x : PV) : ∀ l : List PV, (insB x l).Perm (x :: l)
  | [] => .refl _
  | y :: l => by
    unfold insB
    cases leB x y with
    | true => exact .refl _
    | false => exact ((insB_perm x l).cons y).trans (List.Perm.swap x y l)
theorem sortB_perm : ∀ l : List PV, (sortB l).Perm l
  | [] => .refl _
  | x :: l => (insB_perm x (sortB l)).trans ((sortB_perm l).cons x)
def Srt (l : List PV) : Prop := l.Pairwise fun a b => ltB b a = false
theorem insB_srt (x : PV) : ∀ {l : List PV}, Srt l → Srt (insB x l)
  | [], _ => by simp [insB, Srt]
  | y :: l, h => by
    unfold insB
    rw [Srt, List.pairwise_cons] at h
    cases hl : leB x y with
    | true =>
      rw [leB_eq] at hl
      have hxy : ltB y x = false := by simpa using hl
      rw [Srt, cond_true, List.pairwise_cons]
      refine ⟨fun z hz => ?_, by rw [List.pairwise_cons]; exact h⟩
      rcases List.mem_cons.1 hz with rfl | hz
      · exact hxy
      · have := h.1 z hz
        simp only [ltB, decide_eq_false_iff_not] at this hxy ⊢
        exact cb_ntrans this hxy
    | false =>
      rw [leB_eq] at hl
      have hyx : ltB y x = true := by simpa using hl
      rw [Srt, cond_false, List.pairwise_cons]
      refine ⟨fun z hz => ?_, insB_srt x h.2⟩
      rcases List.mem_cons.1 ((insB_perm x l).mem_iff.1 hz) with rfl | hz
      · simp only [ltB, decide_eq_false_iff_not, decide_eq_true_eq] at hyx ⊢
        intro hc
        rw [cb_anti] at hc; omega
      · exact h.1 z hz
theorem sortB_srt : ∀ l : List PV, Srt (sortB l)
  | [] => List.Pairwise.nil
  | x :: l => insB_srt x (sortB_srt l)
theorem distinctB_spec : ∀ {l : List PV}, distinctB l = true → l.Pairwise fun a b => bname a ≠ bname b
  | [], _ => List.Pairwise.nil
  | x :: l, h => by
    simp only [distinctB, Bool.and_eq_true, List.all_eq_true, Bool.not_eq_true', beq_eq_false_iff_ne] at h
    exact List.pairwise_cons.2 ⟨fun y hy => h.1 y hy, distinctB_spec h.2⟩
theorem pw_mem : ∀ {l : List PV}, (l.Pairwise fun a b => bname a ≠ bname b) → ∀ a b, a ∈ l → b ∈ l → bname a = bname b → a = b
  | x :: l, h, a, b, ha, hb, e => by
    rw [List.pairwise_cons] at h
    rcases List.mem_cons.1 ha with h1 | h1 <;> rcases List.mem_cons.1 hb with h2 | h2
    · rw [h1, h2]
    · rw [h1] at e; exact absurd e (h.1 b h2)
    · rw [h2] at e; exact absurd e.symm (h.1 a h1)
    · exact pw_mem h.2 a b h1 h2 e
theorem sort_unique {xs zs : List PV} (hd : distinctB xs = true) (hp : zs.Perm xs) (hs : Srt zs) : zs = sortB xs := by
  refine List.Perm.eq_of_pairwise (le := fun a b => ltB b a = false) (fun a b ha hb h1 h2 => ?_) hs (sortB_srt xs) (hp.trans (sortB_perm xs).symm)
  refine pw_mem (distinctB_spec hd) a b (hp.mem_iff.1 ha) ((sortB_perm xs).mem_iff.1 hb) (cb_zero ?_)
  simp only [ltB, decide_eq_false_iff_not] at h1 h2
  rw [cb_anti] at h1
  omega
end Go.AL.S4
