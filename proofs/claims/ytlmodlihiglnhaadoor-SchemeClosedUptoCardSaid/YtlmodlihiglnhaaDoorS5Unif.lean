/- Types made alike: ROBINSON, in plain Lean. -/
import Derived.Test.YtlmodlihiglnhaaDoorS5Put
set_option linter.unusedVariables false
set_option linter.unusedSimpArgs false
namespace Go.AL.S5.Un
open Go Go.AL Go.AL.S5

abbrev Bd := Str × Ty
def var (n : Str) : Ty := .mk 5 n []
def qn (n : Str) : Prop := n.head? = some 63
instance (n : Str) : Decidable (qn n) := inferInstanceAs (Decidable (_ = _))

theorem ind {Q : Ty → Prop} (h : ∀ k nm args, (∀ t, t ∈ args → Q t) → Q (.mk k nm args)) (t : Ty) : Q t := by
  have : ∀ (N : Nat) (t : Ty), SizeOf.sizeOf t < N → Q t := by
    intro N
    induction N with
    | zero => intro t ht; omega
    | succ N ih =>
      rintro ⟨k, nm, args⟩ ht
      refine h k nm args fun t hm => ih t ?_
      have h1 := List.sizeOf_lt_of_mem hm
      simp only [Ty.mk.sizeOf_spec] at ht
      omega
  exact this _ t (Nat.lt_succ_self _)

/-! #### Putting in -/
mutual
def ap (σ : Str → Option Ty) : Ty → Ty
  | .mk k n a => match (bif k == 5 then σ n else none) with
    | some u => u
    | none => .mk k n (aps σ a)
def aps (σ : Str → Option Ty) : List Ty → List Ty
  | [] => []
  | t :: l => ap σ t :: aps σ l
end
theorem aps_map (σ : Str → Option Ty) (l : List Ty) : aps σ l = l.map (ap σ) := by
  induction l with
  | nil => simp [aps]
  | cons t l ih => simp [aps, ih]
theorem ap_some {σ : Str → Option Ty} {n : Str} {a : List Ty} {u : Ty} (h : σ n = some u) : ap σ (.mk 5 n a) = u := by
  simp [ap, h]
theorem ap_five {σ : Str → Option Ty} {n : Str} {a : List Ty} (h : σ n = none) : ap σ (.mk 5 n a) = .mk 5 n (a.map (ap σ)) := by
  simp [ap, h, aps_map]
theorem ap_other {σ : Str → Option Ty} {k : Int} {n : Str} {a : List Ty} (h : k ≠ 5) : ap σ (.mk k n a) = .mk k n (a.map (ap σ)) := by
  have : (k == 5) = false := by simpa using h
  simp [ap, this, aps_map]

mutual
def sz : Ty → Nat
  | .mk _ _ a => szs a + 1
def szs : List Ty → Nat
  | [] => 0
  | t :: l => sz t + szs l
end
theorem sz_mk (k : Int) (n : Str) (a : List Ty) : sz (.mk k n a) = szs a + 1 := by simp [sz]
theorem sz_mem : ∀ {l : List Ty} {t : Ty}, t ∈ l → sz t ≤ szs l
  | u :: l, t, h => by
    simp only [szs]
    rcases List.mem_cons.1 h with rfl | h
    · omega
    · have := sz_mem h; omega

inductive Pur : Ty → Prop where
  | mk {k : Int} {n : Str} {a : List Ty} : (k = 5 → a = []) → (∀ t, t ∈ a → Pur t) → Pur (.mk k n a)
theorem Pur.five {k : Int} {n : Str} {a : List Ty} (h : Pur (.mk k n a)) : k = 5 → a = [] := by cases h; assumption
theorem Pur.sub {k : Int} {n : Str} {a : List Ty} (h : Pur (.mk k n a)) : ∀ t, t ∈ a → Pur t := by cases h; assumption
/-- a name for a type that is looked for -/
inductive Occ (n : Str) : Ty → Prop where
  | here {a : List Ty} : Occ n (.mk 5 n a)
  | arg {k : Int} {m : Str} {a : List Ty} {t : Ty} : t ∈ a → Occ n t → Occ n (.mk k m a)
theorem occ_inv {n : Str} {k : Int} {m : Str} {a : List Ty} (h : Occ n (.mk k m a)) : (k = 5 ∧ m = n) ∨ ∃ t, t ∈ a ∧ Occ n t := by
  cases h with
  | here => exact .inl ⟨rfl, rfl⟩
  | arg h1 h2 => exact .inr ⟨_, h1, h2⟩

theorem ap_free {τ : Str → Option Ty} {t : Ty} : (∀ n, Occ n t → τ n = none) → ap τ t = t := by
  refine ind (Q := fun t => (∀ n, Occ n t → τ n = none) → ap τ t = t) (fun k nm args ih h => ?_) t
  have ha : args.map (ap τ) = args := by
    rw [List.map_congr_left (g := id) fun t ht => ih t ht fun n hn => h n (.arg ht hn)]
    simp
  by_cases hk : k = 5
  · subst hk
    rw [ap_five (h nm .here), ha]
  · rw [ap_other hk, ha]
theorem pur_ap {τ : Str → Option Ty} (hτ : ∀ n u, τ n = some u → Pur u) {t : Ty} : Pur t → Pur (ap τ t) := by
  refine ind (Q := fun t => Pur t → Pur (ap τ t)) (fun k nm args ih h => ?_) t
  by_cases hk : k = 5
  · subst hk
    cases hn : τ nm with
    | some u => rw [ap_some hn]; exact hτ _ _ hn
    | none =>
      rw [ap_five hn, h.five rfl]
      exact .mk (fun _ => rfl) (by simp)
  · rw [ap_other hk]
    refine .mk (fun e => absurd e hk) fun t ht => ?_
    obtain ⟨u, hu, rfl⟩ := List.mem_map.1 ht
    exact ih u hu (h.sub u hu)
theorem occ_ap {τ : Str → Option Ty} {m : Str} {t : Ty} : Occ m (ap τ t) → (Occ m t ∧ τ m = none) ∨ ∃ n u, Occ n t ∧ τ n = some u ∧ Occ m u := by
  refine ind (Q := fun t => Occ m (ap τ t) → (Occ m t ∧ τ m = none) ∨ ∃ n u, Occ n t ∧ τ n = some u ∧ Occ m u) (fun k nm args ih h => ?_) t
  have sub : ∀ {k : Int} {n : Str}, (∃ t, t ∈ args.map (ap τ) ∧ Occ m t) → (Occ m (.mk k n args) ∧ τ m = none) ∨ ∃ n' u, Occ n' (.mk k n args) ∧ τ n' = some u ∧ Occ m u := by
    rintro k n ⟨t, ht, ho⟩
    obtain ⟨u, hu, rfl⟩ := List.mem_map.1 ht
    rcases ih u hu ho with ⟨h1, h2⟩ | ⟨n', v, h1, h2, h3⟩
    · exact .inl ⟨.arg hu h1, h2⟩
    · exact .inr ⟨n', v, .arg hu h1, h2, h3⟩
  by_cases hk : k = 5
  · subst hk
    cases hn : τ nm with
    | some u => rw [ap_some hn] at h; exact .inr ⟨nm, u, .here, hn, h⟩
    | none =>
      rw [ap_five hn] at h
      rcases occ_inv h with ⟨_, rfl⟩ | h
      · exact .inl ⟨.here, hn⟩
      · exact sub h
  · rw [ap_other hk] at h
    rcases occ_inv h with ⟨e, _⟩ | h
    · exact absurd e hk
    · exact sub h

/-- Only unknowns are made anything. -/
def Qs (σ : Str → Option Ty) : Prop := ∀ n u, σ n = some u → qn n
theorem ap_comp {σ τ : Str → Option Ty} (hS : ∀ n u, τ n = some u → ap σ u = ap σ (var n)) {t : Ty} : Pur t → ap σ (ap τ t) = ap σ t := by
  refine ind (Q := fun t => Pur t → ap σ (ap τ t) = ap σ t) (fun k nm args ih h => ?_) t
  by_cases hk : k = 5
  · subst hk
    have := h.five rfl
    subst this
    cases hn : τ nm with
    | some u => rw [ap_some hn]; exact hS nm u hn
    | none => rw [ap_five hn]; rfl
  · rw [ap_other hk, ap_other hk, ap_other hk, List.map_map]
    congr 1
    exact List.map_congr_left fun t ht => ih t ht (h.sub t ht)

theorem occ_le {σ : Str → Option Ty} {n : Str} {t : Ty} : Pur t → Occ n t → sz (ap σ (var n)) ≤ sz (ap σ t) := by
  refine ind (Q := fun t => Pur t → Occ n t → sz (ap σ (var n)) ≤ sz (ap σ t)) (fun k nm args ih h ho => ?_) t
  rcases occ_inv ho with ⟨rfl, rfl⟩ | ⟨t, ht, ho⟩
  · have := h.five rfl
    subst this
    exact Nat.le_refl _
  · have hk : k ≠ 5 := fun e => by rw [h.five e] at ht; cases ht
    rw [ap_other hk, sz_mk]
    have h1 := ih t ht (h.sub t ht) ho
    have h2 := sz_mem (List.mem_map.2 ⟨t, ht, rfl⟩ : ap σ t ∈ args.map (ap σ))
    omega
theorem occ_lt {σ : Str → Option Ty} {n : Str} {t : Ty} (hp : Pur t) (ho : Occ n t) (hne : t ≠ var n) : sz (ap σ (var n)) < sz (ap σ t) := by
  obtain ⟨k, m, a⟩ := t
  rcases occ_inv ho with ⟨rfl, rfl⟩ | ⟨t, ht, ho⟩
  · exact absurd (by rw [hp.five rfl]; rfl) hne
  · have hk : k ≠ 5 := fun e => by rw [hp.five e] at ht; cases ht
    rw [ap_other hk, sz_mk]
    have h1 := occ_le (σ := σ) (hp.sub t ht) ho
    have h2 := sz_mem (List.mem_map.2 ⟨t, ht, rfl⟩ : ap σ t ∈ a.map (ap σ))
    omega

/-! #### Lists of what unknowns are -/
def lk : List Bd → Str → Option Ty
  | [], _ => none
  | b :: l, n => if b.1 = n then some b.2 else lk l n
theorem lk_mem : ∀ {l : List Bd} {n : Str} {u : Ty}, lk l n = some u → (n, u) ∈ l
  | b :: l, n, u, h => by
    simp only [lk] at h
    split at h
    · rename_i hb
      obtain rfl := Option.some.inj h
      subst hb
      simp
    · simp [lk_mem h]
theorem lk_none : ∀ {l : List Bd} {n : Str}, n ∉ l.map (·.1) → lk l n = none
  | [], _, _ => rfl
  | b :: l, n, h => by
    simp only [List.map_cons, List.mem_cons, not_or] at h
    simp only [lk]
    rw [if_neg (fun e => h.1 e.symm), lk_none h.2]
theorem lk_of : ∀ {l : List Bd} {b : Bd}, (l.map (·.1)).Nodup → b ∈ l → lk l b.1 = some b.2
  | c :: l, b, hn, hb => by
    simp only [List.map_cons, List.nodup_cons] at hn
    simp only [lk]
    rcases List.mem_cons.1 hb with rfl | hb
    · simp
    · rw [if_neg (fun e => hn.1 (by rw [e]; exact List.mem_map.2 ⟨b, hb, rfl⟩)), lk_of hn.2 hb]
def Sol (σ : Str → Option Ty) (l : List Bd) : Prop := ∀ b, b ∈ l → ap σ b.2 = ap σ (var b.1)
theorem Sol.comp {σ : Str → Option Ty} {l : List Bd} (h : Sol σ l) {t : Ty} (hp : Pur t) : ap σ (ap (lk l) t) = ap σ t := ap_comp (fun n u hu => h _ (lk_mem hu)) hp

structure Inv (W : List Str) (l : List Bd) : Prop where
  nd : (l.map (·.1)).Nodup
  q : ∀ b, b ∈ l → qn b.1 ∧ b.1 ∈ W
  pur : ∀ b, b ∈ l → Pur b.2
  idem : ∀ b c, b ∈ l → c ∈ l → ¬ Occ c.1 b.2
  occ : ∀ b, b ∈ l → ∀ n, Occ n b.2 → qn n → n ∈ W
def Inn (W : List Str) (t : Ty) : Prop := Pur t ∧ ∀ n, Occ n t → qn n → n ∈ W
theorem Inv.pur_ap {W : List Str} {l : List Bd} (h : Inv W l) {t : Ty} (hp : Inn W t) : Inn W (ap (lk l) t) := by
  refine ⟨Un.pur_ap (fun n u hu => h.pur _ (lk_mem hu)) hp.1, fun n hn hq => ?_⟩
  rcases occ_ap hn with ⟨h1, _⟩ | ⟨m, u, h1, h2, h3⟩
  · exact hp.2 n h1 hq
  · exact h.occ _ (lk_mem h2) n h3 hq
theorem Inv.free {W : List Str} {l : List Bd} (h : Inv W l) {t : Ty} {c : Bd} (hc : c ∈ l) : ¬ Occ c.1 (ap (lk l) t) := fun ho => by
  rcases occ_ap ho with ⟨_, h2⟩ | ⟨n, u, _, h2, h3⟩
  · rw [lk_of h.nd hc] at h2; cases h2
  · exact h.idem _ _ (lk_mem h2) hc h3
theorem Inv.twice {W : List Str} {l : List Bd} (h : Inv W l) (t : Ty) : ap (lk l) (ap (lk l) t) = ap (lk l) t := ap_free fun n hn => by
  refine lk_none fun hm => ?_
  obtain ⟨c, hc, rfl⟩ := List.mem_map.1 hm
  exact h.free hc hn
/-- It solves itself. -/
theorem Inv.self {W : List Str} {l : List Bd} (h : Inv W l) : Sol (lk l) l := fun b hb => by
  rw [show ap (lk l) (var b.1) = b.2 from ap_some (lk_of h.nd hb)]
  refine ap_free fun n hn => lk_none fun hm => ?_
  obtain ⟨c, hc, rfl⟩ := List.mem_map.1 hm
  exact h.idem b c hb hc hn
theorem Inv.qs {W : List Str} {l : List Bd} (h : Inv W l) : Qs (lk l) := fun n u hu => (h.q _ (lk_mem hu)).1

/-- One more is bound. -/
def ext (l : List Bd) (n : Str) (t : Ty) : List Bd := (l ++ [(n, t)]).map fun b => (b.1, ap (lk [(n, t)]) b.2)
theorem lk_one {n m : Str} {t u : Ty} (h : lk [(n, t)] m = some u) : m = n ∧ u = t := by
  have := lk_mem h
  simp only [List.mem_singleton, Prod.mk.injEq] at this
  exact this
theorem ext_fst (l : List Bd) (n : Str) (t : Ty) : (ext l n t).map (·.1) = l.map (·.1) ++ [n] := by
  simp [ext]
theorem ext_mem {l : List Bd} {n : Str} {t : Ty} {b : Bd} (h : b ∈ ext l n t) : ∃ c, (c ∈ l ∨ c = (n, t)) ∧ b = (c.1, ap (lk [(n, t)]) c.2) := by
  obtain ⟨c, hc, rfl⟩ := List.mem_map.1 h
  refine ⟨c, ?_, rfl⟩
  rcases List.mem_append.1 hc with hc | hc
  · exact .inl hc
  · exact .inr (List.mem_singleton.1 hc)
theorem ext_inv {W : List Str} {l : List Bd} (h : Inv W l) {n : Str} {t : Ty} (hn : n ∉ l.map (·.1)) (hq : qn n) (hW : n ∈ W) (ht : Inn W t) (hno : ¬ Occ n t) (hfree : ∀ c, c ∈ l → ¬ Occ c.1 t) : Inv W (ext l n t) := by
  have hin : ∀ c, (c ∈ l ∨ c = (n, t)) → Inn W c.2 := fun c hc => by
    rcases hc with hc | rfl
    · exact ⟨h.pur c hc, h.occ c hc⟩
    · exact ht
  have hpt : ∀ m u, lk [(n, t)] m = some u → Pur u := fun m u hu => by obtain ⟨_, rfl⟩ := lk_one hu; exact ht.1
  refine ⟨?_, fun b hb => ?_, fun b hb => ?_, fun b d hb hd ho => ?_, fun b hb m hm hqm => ?_⟩
  · rw [ext_fst, List.nodup_append]
    exact ⟨h.nd, by simp, fun a ha b hb => by simp at hb; subst hb; exact fun e => hn (e ▸ ha)⟩
  · obtain ⟨c, hc, rfl⟩ := ext_mem hb
    rcases hc with hc | rfl
    · exact h.q c hc
    · exact ⟨hq, hW⟩
  · obtain ⟨c, hc, rfl⟩ := ext_mem hb
    exact Un.pur_ap hpt (hin c hc).1
  · obtain ⟨c, hc, rfl⟩ := ext_mem hb
    obtain ⟨e, he, rfl⟩ := ext_mem hd
    simp only at ho
    rcases occ_ap ho with ⟨h1, h2⟩ | ⟨m, u, h1, h2, h3⟩
    · rcases he with he | rfl
      · rcases hc with hc | rfl
        · exact h.idem c e hc he h1
        · exact hfree e he h1
      · simp [lk] at h2
    · obtain ⟨rfl, rfl⟩ := lk_one h2
      rcases he with he | rfl
      · exact hfree e he h3
      · exact hno h3
  · obtain ⟨c, hc, rfl⟩ := ext_mem hb
    rcases occ_ap hm with ⟨h1, _⟩ | ⟨_, u, _, h2, h3⟩
    · exact (hin c hc).2 m h1 hqm
    · obtain ⟨_, rfl⟩ := lk_one h2
      exact ht.2 m h3 hqm
theorem ext_sol {W : List Str} {l : List Bd} (h : Inv W l) {n : Str} {t : Ty} (ht : Pur t) (hno : ¬ Occ n t) {σ : Str → Option Ty} : Sol σ (ext l n t) ↔ Sol σ l ∧ ap σ t = ap σ (var n) := by
  have hself : ap (lk [(n, t)]) t = t := ap_free fun m hm => lk_none (by simp; rintro rfl; exact hno hm)
  have hcomp : ap σ t = ap σ (var n) → ∀ u, Pur u → ap σ (ap (lk [(n, t)]) u) = ap σ u := fun e u hu => ap_comp (fun m v hv => by obtain ⟨rfl, rfl⟩ := lk_one hv; exact e) hu
  constructor
  · intro hS
    have hn : ap σ t = ap σ (var n) := by
      have := hS (n, ap (lk [(n, t)]) t) (List.mem_map.2 ⟨(n, t), by simp, rfl⟩)
      rw [hself] at this
      exact this
    refine ⟨fun b hb => ?_, hn⟩
    have := hS (b.1, ap (lk [(n, t)]) b.2) (List.mem_map.2 ⟨b, by simp [hb], rfl⟩)
    rw [← hcomp hn b.2 (h.pur b hb)]
    exact this
  · rintro ⟨hS, hn⟩ b hb
    obtain ⟨c, hc, rfl⟩ := ext_mem hb
    rcases hc with hc | rfl
    · simp only
      rw [hcomp hn c.2 (h.pur c hc)]
      exact hS c hc
    · simp only
      rw [hself]
      exact hn
end Go.AL.S5.Un
