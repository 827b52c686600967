/- Types made alike: what is told solves; what is refused can't be solved; it comes to an end. -/
import Derived.Test.YtlmodlihiglnhaaDoorS5Unif
set_option linter.unusedVariables false
set_option linter.unusedSimpArgs false
namespace Go.AL.S5.Un
open Go Go.AL Go.AL.S5

def unk : Ty → Bool
  | .mk k n a => k == 5 && (a.isEmpty && decide (qn n))
theorem unk_iff {t : Ty} : unk t = true ↔ ∃ n, t = var n ∧ qn n := by
  obtain ⟨k, n, a⟩ := t
  simp only [unk, Bool.and_eq_true, beq_iff_eq, List.isEmpty_iff, decide_eq_true_eq]
  constructor
  · rintro ⟨rfl, rfl, h⟩; exact ⟨n, rfl, h⟩
  · rintro ⟨m, h, hq⟩
    simp only [var, Ty.mk.injEq] at h
    obtain ⟨rfl, rfl, rfl⟩ := h
    exact ⟨rfl, rfl, hq⟩
theorem unk_name {t : Ty} (h : unk t = true) : t = var t.name ∧ qn t.name := by
  obtain ⟨n, rfl, hq⟩ := unk_iff.1 h
  exact ⟨rfl, hq⟩

inductive Res where
  | ok (l : List Bd)
  | bad
  | loop
  | large

section
variable (big : Ty → Bool) (gt : Str → Str → Bool)
open Classical in
noncomputable def bindF (l : List Bd) (n : Str) (t : Ty) : Res := if Occ n t then .loop else if ∃ b, b ∈ ext l n t ∧ big b.2 = true then .large else .ok (ext l n t)
def goArgs (f : List Bd → Ty → Ty → Option Res) : List Bd → List Ty → List Ty → Option Res
  | l, x :: xs, y :: ys => match f l x y with
    | some (.ok l') => goArgs f l' xs ys
    | r => r
  | l, _, _ => some (.ok l)
noncomputable def pairF : Nat → List Bd → Ty → Ty → Option Res
  | 0, _, _, _ => none
  | n + 1, l, a, b =>
    bif unk (ap (lk l) a) && (unk (ap (lk l) b) && (ap (lk l) a).name == (ap (lk l) b).name) then some (.ok l)
    else bif unk (ap (lk l) a) && (!unk (ap (lk l) b) || gt (ap (lk l) a).name (ap (lk l) b).name) then some (bindF big l (ap (lk l) a).name (ap (lk l) b))
    else bif unk (ap (lk l) b) then some (bindF big l (ap (lk l) b).name (ap (lk l) a))
    else bif !((ap (lk l) a).kind == (ap (lk l) b).kind) || (!((ap (lk l) a).name == (ap (lk l) b).name) || !((ap (lk l) a).args.length == (ap (lk l) b).args.length)) then some .bad
    else goArgs (pairF n) l (ap (lk l) a).args (ap (lk l) b).args
end

/-- What an answer says. -/
def Says (W : List Str) (l : List Bd) (E : (Str → Option Ty) → Prop) : Res → Prop
  | .ok l' => Inv W l' ∧ (l' = l ∨ l.length < l'.length) ∧ ∀ σ, Qs σ → (Sol σ l' ↔ Sol σ l ∧ E σ)
  | .large => True
  | _ => ∀ σ, Qs σ → Sol σ l → ¬ E σ
theorem Says.congr {W : List Str} {l : List Bd} {E E' : (Str → Option Ty) → Prop} (h : ∀ σ, Qs σ → Sol σ l → (E σ ↔ E' σ)) : ∀ {r : Res}, Says W l E r → Says W l E' r
  | .ok l', ⟨h1, h2, h3⟩ => ⟨h1, h2, fun σ hq => (h3 σ hq).trans ⟨fun k => ⟨k.1, (h σ hq k.1).1 k.2⟩, fun k => ⟨k.1, (h σ hq k.1).2 k.2⟩⟩⟩
  | .large, _ => trivial
  | .bad, k => fun σ hq hS e => k σ hq hS ((h σ hq hS).2 e)
  | .loop, k => fun σ hq hS e => k σ hq hS ((h σ hq hS).2 e)

variable {big : Ty → Bool} {gt : Str → Str → Bool} {W : List Str}

theorem bindF_says {l : List Bd} (h : Inv W l) {n : Str} {t : Ty} (hn : n ∉ l.map (·.1)) (hq : qn n) (hW : n ∈ W) (ht : Inn W t) (hfree : ∀ c, c ∈ l → ¬ Occ c.1 t) (hne : t ≠ var n) : Says W l (fun σ => ap σ (var n) = ap σ t) (bindF big l n t) := by
  unfold bindF
  by_cases ho : Occ n t
  · rw [if_pos ho]
    intro σ _ _ e
    have := occ_lt (σ := σ) ht.1 ho hne
    rw [e] at this
    omega
  · rw [if_neg ho]
    split
    · trivial
    · refine ⟨ext_inv h hn hq hW ht ho hfree, .inr (by simp [ext]), fun σ _ => (ext_sol h ht.1 ho).trans ⟨fun k => ⟨k.1, k.2.symm⟩, fun k => ⟨k.1, k.2.symm⟩⟩⟩

theorem goArgs_says {f : List Bd → Ty → Ty → Option Res} (hf : ∀ l a b r, Inv W l → Inn W a → Inn W b → f l a b = some r → Says W l (fun σ => ap σ a = ap σ b) r) : ∀ (xs ys : List Ty) (l : List Bd) (r : Res), Inv W l → (∀ t, t ∈ xs → Inn W t) → (∀ t, t ∈ ys → Inn W t) → xs.length = ys.length → goArgs f l xs ys = some r → Says W l (fun σ => xs.map (ap σ) = ys.map (ap σ)) r
  | [], [], l, r, h, _, _, _, e => by
    obtain rfl := Option.some.inj e
    exact ⟨h, .inl rfl, fun σ _ => by simp⟩
  | [], _ :: _, _, _, _, _, _, hl, _ => by simp at hl
  | _ :: _, [], _, _, _, _, _, hl, _ => by simp at hl
  | x :: xs, y :: ys, l, r, h, hx, hy, hl, e => by
    simp only [goArgs] at e
    cases hfe : f l x y with
    | none => rw [hfe] at e; cases e
    | some r1 =>
      have h1 := hf l x y r1 h (hx x (by simp)) (hy y (by simp)) hfe
      rw [hfe] at e
      cases r1 with
      | ok l' =>
        simp only at e
        obtain ⟨i1, i2, i3⟩ := h1
        have h2 := goArgs_says hf xs ys l' r i1 (fun t ht => hx t (by simp [ht])) (fun t ht => hy t (by simp [ht])) (by simpa using hl) e
        cases r with
        | ok l2 =>
          obtain ⟨j1, j2, j3⟩ := h2
          refine ⟨j1, ?_, fun σ hq => ?_⟩
          · rcases i2 with rfl | i2
            · exact j2
            · rcases j2 with rfl | j2
              · exact .inr i2
              · exact .inr (by omega)
          · rw [j3 σ hq, i3 σ hq]
            simp only [List.map_cons, List.cons.injEq, and_assoc]
        | large => trivial
        | bad =>
          intro σ hq hS e
          simp only [List.map_cons, List.cons.injEq] at e
          exact h2 σ hq ((i3 σ hq).2 ⟨hS, e.1⟩) e.2
        | loop =>
          intro σ hq hS e
          simp only [List.map_cons, List.cons.injEq] at e
          exact h2 σ hq ((i3 σ hq).2 ⟨hS, e.1⟩) e.2
      | large => simp only at e; obtain rfl := Option.some.inj e; trivial
      | bad =>
        simp only at e
        obtain rfl := Option.some.inj e
        intro σ hq hS e
        simp only [List.map_cons, List.cons.injEq] at e
        exact h1 σ hq hS e.1
      | loop =>
        simp only at e
        obtain rfl := Option.some.inj e
        intro σ hq hS e
        simp only [List.map_cons, List.cons.injEq] at e
        exact h1 σ hq hS e.1

/-- A type that is no unknown keeps its head. -/
theorem keeps {σ : Str → Option Ty} (hq : Qs σ) {t : Ty} (hp : Pur t) (h : unk t = false) : ap σ t = .mk t.kind t.name (t.args.map (ap σ)) := by
  obtain ⟨k, n, a⟩ := t
  by_cases hk : k = 5
  · subst hk
    have ha := hp.five rfl
    subst ha
    have : σ n = none := by
      cases hs : σ n with
      | none => rfl
      | some u =>
        have := hq n u hs
        simp [unk, this] at h
    exact ap_five this
  · exact ap_other hk

theorem pairF_says : ∀ (n : Nat) (l : List Bd) (a b : Ty) (r : Res), Inv W l → Inn W a → Inn W b → pairF big gt n l a b = some r → Says W l (fun σ => ap σ a = ap σ b) r
  | 0, _, _, _, _, _, _, _, e => by cases e
  | n + 1, l, a, b, r, h, ha, hb, e => by
    have ha' := h.pur_ap ha
    have hb' := h.pur_ap hb
    have hfa : ∀ c, c ∈ l → ¬ Occ c.1 (ap (lk l) a) := fun c hc => h.free hc
    have hfb : ∀ c, c ∈ l → ¬ Occ c.1 (ap (lk l) b) := fun c hc => h.free hc
    refine Says.congr (E := fun σ => ap σ (ap (lk l) a) = ap σ (ap (lk l) b)) (fun σ hq hS => by rw [hS.comp ha.1, hS.comp hb.1]) ?_
    simp only [pairF] at e
    generalize ap (lk l) a = a' at *
    generalize ap (lk l) b = b' at *
    have ndom : ∀ t : Ty, (∀ c, c ∈ l → ¬ Occ c.1 t) → ∀ m, Occ m t → m ∉ l.map (·.1) := fun t ht m hm hml => by
      obtain ⟨c, hc, rfl⟩ := List.mem_map.1 hml
      exact ht c hc hm
    cases hua : unk a' with
    | true =>
      obtain ⟨ea, qa⟩ := unk_name hua
      have oa : Occ a'.name a' := by rw [ea]; exact .here
      have W1 := ha'.2 _ oa qa
      have N1 := ndom a' hfa _ oa
      cases hub : unk b' with
      | true =>
        obtain ⟨eb, qb⟩ := unk_name hub
        have ob : Occ b'.name b' := by rw [eb]; exact .here
        by_cases hnm : a'.name = b'.name
        · rw [hua, hub, show (a'.name == b'.name) = true from by simpa using hnm] at e
          obtain rfl := Option.some.inj e
          refine ⟨h, .inl rfl, fun σ _ => ⟨fun k => ⟨k, by rw [ea, eb, hnm]⟩, fun k => k.1⟩⟩
        · rw [hua, hub, show (a'.name == b'.name) = false from by simpa using hnm] at e
          simp only [Bool.and_false, cond_false, Bool.not_true, Bool.false_or, Bool.true_and] at e
          cases hg : gt a'.name b'.name with
          | true =>
            rw [hg] at e
            obtain rfl := Option.some.inj e
            have := bindF_says (big := big) h N1 qa W1 hb' hfb (fun e1 => hnm (by rw [e1]; rfl))
            rw [← ea] at this
            exact this
          | false =>
            rw [hg] at e
            obtain rfl := Option.some.inj e
            have := bindF_says (big := big) h (ndom b' hfb _ ob) qb (hb'.2 _ ob qb) ha' hfa (fun e1 => hnm (by rw [e1]; rfl))
            rw [← eb] at this
            exact this.congr fun σ _ _ => ⟨fun k => k.symm, fun k => k.symm⟩
      | false =>
        rw [hua, hub] at e
        simp only [Bool.false_and, Bool.and_false, cond_false, Bool.not_false, Bool.true_or, Bool.and_self, cond_true] at e
        obtain rfl := Option.some.inj e
        have := bindF_says (big := big) h N1 qa W1 hb' hfb (fun e1 => by rw [e1] at hub; rw [show unk (var a'.name) = true from unk_iff.2 ⟨_, rfl, qa⟩] at hub; cases hub)
        rw [← ea] at this
        exact this
    | false =>
      cases hub : unk b' with
      | true =>
        obtain ⟨eb, qb⟩ := unk_name hub
        have ob : Occ b'.name b' := by rw [eb]; exact .here
        rw [hua, hub] at e
        simp only [Bool.false_and, cond_false, cond_true] at e
        obtain rfl := Option.some.inj e
        have := bindF_says (big := big) h (ndom b' hfb _ ob) qb (hb'.2 _ ob qb) ha' hfa (fun e1 => by rw [e1] at hua; rw [show unk (var b'.name) = true from unk_iff.2 ⟨_, rfl, qb⟩] at hua; cases hua)
        rw [← eb] at this
        exact this.congr fun σ _ _ => ⟨fun k => k.symm, fun k => k.symm⟩
      | false =>
        rw [hua, hub] at e
        simp only [Bool.false_and, cond_false] at e
        by_cases hh : a'.kind = b'.kind ∧ a'.name = b'.name ∧ a'.args.length = b'.args.length
        · obtain ⟨k1, k2, k3⟩ := hh
          rw [k1, k2, k3] at e
          simp only [beq_self_eq_true, Bool.not_true, Bool.or_self, cond_false] at e
          have subI : ∀ t : Ty, Inn W t → ∀ u, u ∈ t.args → Inn W u := fun t ht u hu => by
            obtain ⟨k, m, args⟩ := t
            exact ⟨ht.1.sub u hu, fun n hn hq => ht.2 n (.arg hu hn) hq⟩
          have := goArgs_says (f := pairF big gt n) (fun l a b r h1 h2 h3 h4 => pairF_says n l a b r h1 h2 h3 h4) a'.args b'.args l r h (subI a' ha') (subI b' hb') k3 e
          refine this.congr fun σ hq _ => ?_
          rw [keeps hq ha'.1 hua, keeps hq hb'.1 hub, k1, k2]
          simp
        · have : (!(a'.kind == b'.kind) || (!(a'.name == b'.name) || !(a'.args.length == b'.args.length))) = true := by
            by_cases k1 : a'.kind = b'.kind
            · by_cases k2 : a'.name = b'.name
              · have k3 : a'.args.length ≠ b'.args.length := fun k3 => hh ⟨k1, k2, k3⟩
                simp [k3]
              · simp [k2]
            · simp [k1]
          rw [this] at e
          obtain rfl := Option.some.inj e
          intro σ hq _ e1
          rw [keeps hq ha'.1 hua, keeps hq hb'.1 hub] at e1
          simp only [Ty.mk.injEq] at e1
          refine hh ⟨e1.1, e1.2.1, ?_⟩
          have := congrArg List.length e1.2.2
          simpa using this

/-! #### It comes to an end -/
theorem goArgs_mono {f g : List Bd → Ty → Ty → Option Res} (h : ∀ l a b r, f l a b = some r → g l a b = some r) : ∀ (xs ys : List Ty) (l : List Bd) (r : Res), goArgs f l xs ys = some r → goArgs g l xs ys = some r
  | [], _, _, _, e => e
  | _ :: _, [], _, _, e => e
  | x :: xs, y :: ys, l, r, e => by
    simp only [goArgs] at e ⊢
    cases hfe : f l x y with
    | none => rw [hfe] at e; cases e
    | some r1 =>
      rw [hfe] at e
      rw [h l x y r1 hfe]
      cases r1 with
      | ok l' => exact goArgs_mono h xs ys l' r e
      | large => exact e
      | bad => exact e
      | loop => exact e
theorem pairF_succ : ∀ (n : Nat) (l : List Bd) (a b : Ty) (r : Res), pairF big gt n l a b = some r → pairF big gt (n + 1) l a b = some r
  | 0, _, _, _, _, e => by cases e
  | n + 1, l, a, b, r, e => by
    have ih := goArgs_mono (f := pairF big gt n) (g := pairF big gt (n + 1)) (fun l a b r => pairF_succ n l a b r) (ap (lk l) a).args (ap (lk l) b).args l r
    rw [pairF] at e ⊢
    revert e
    cases (unk (ap (lk l) a) && (unk (ap (lk l) b) && (ap (lk l) a).name == (ap (lk l) b).name)) <;> simp only [cond_true, cond_false]
    · cases (unk (ap (lk l) a) && (!unk (ap (lk l) b) || gt (ap (lk l) a).name (ap (lk l) b).name)) <;> simp only [cond_true, cond_false]
      · cases unk (ap (lk l) b) <;> simp only [cond_true, cond_false]
        · cases (!((ap (lk l) a).kind == (ap (lk l) b).kind) || (!((ap (lk l) a).name == (ap (lk l) b).name) || !((ap (lk l) a).args.length == (ap (lk l) b).args.length))) <;> simp only [cond_true, cond_false]
          · exact ih
          · exact id
        · exact id
      · exact id
    · exact id
theorem pairF_mono {n m : Nat} (h : n ≤ m) {l : List Bd} {a b : Ty} {r : Res} (e : pairF big gt n l a b = some r) : pairF big gt m l a b = some r := by
  induction h with
  | refl => exact e
  | step _ ih => exact pairF_succ _ _ _ _ _ ih

theorem nodup_sub : ∀ (l W : List Str), l.Nodup → (∀ x, x ∈ l → x ∈ W) → l.length ≤ W.length
  | [], _, _, _ => Nat.zero_le _
  | x :: l, W, hn, h => by
    have hx := h x (by simp)
    obtain ⟨h1, h2⟩ := List.nodup_cons.1 hn
    have := nodup_sub l (W.erase x) h2 fun y hy => (List.mem_erase_of_ne (a := y) (b := x) (fun e => h1 (by subst e; exact hy))).2 (h y (by simp [hy]))
    have h3 := List.length_erase_of_mem hx
    have h4 : 0 < W.length := List.length_pos_of_mem hx
    simp only [List.length_cons]
    omega
theorem Inv.len {l : List Bd} (h : Inv W l) : l.length ≤ W.length := by
  have := nodup_sub (l.map (·.1)) W h.nd fun x hx => by
    obtain ⟨b, hb, rfl⟩ := List.mem_map.1 hx
    exact (h.q b hb).2
  simpa using this

theorem pairF_ends : ∀ (u s : Nat) (l : List Bd) (a b : Ty), Inv W l → Inn W a → Inn W b → W.length - l.length ≤ u → sz (ap (lk l) a) + sz (ap (lk l) b) ≤ s → ∃ n r, pairF big gt n l a b = some r := by
  intro u
  induction u using Nat.strongRecOn with
  | ind u ihu =>
    intro s
    induction s with
    | zero =>
      intro l a b _ _ _ _ hs
      have : 0 < sz (ap (lk l) a) := by
        cases ap (lk l) a with
        | mk k n a => rw [sz_mk]; omega
      omega
    | succ s ihs =>
      intro l a b h ha hb hu hs
      have ha' := h.pur_ap ha
      have hb' := h.pur_ap hb
      -- the parts, one behind the other
      have parts : ∀ (xs ys : List Ty) (l' : List Bd), (∀ t, t ∈ xs → Inn W t ∧ ap (lk l) t = t) → (∀ t, t ∈ ys → Inn W t ∧ ap (lk l) t = t) → szs xs + szs ys ≤ s → Inv W l' → (l' = l ∨ l.length < l'.length) → xs.length = ys.length → ∃ n r, goArgs (pairF big gt n) l' xs ys = some r := by
        intro xs
        induction xs with
        | nil => intro ys l' _ _ _ _ _ _; exact ⟨0, .ok l', by simp [goArgs]⟩
        | cons x xs ihx =>
          intro ys l' hx hy hsz hl' hor hlen
          cases ys with
          | nil => simp at hlen
          | cons y ys =>
            simp only [szs] at hsz
            obtain ⟨n1, r1, e1⟩ : ∃ n r, pairF big gt n l' x y = some r := by
              rcases hor with rfl | hor
              · refine ihs l' x y hl' (hx x (by simp)).1 (hy y (by simp)).1 hu ?_
                rw [(hx x (by simp)).2, (hy y (by simp)).2]
                omega
              · have := hl'.len
                exact ihu (W.length - l'.length) (by omega) _ l' x y hl' (hx x (by simp)).1 (hy y (by simp)).1 (Nat.le_refl _) (Nat.le_refl _)
            have hsay := pairF_says n1 l' x y r1 hl' (hx x (by simp)).1 (hy y (by simp)).1 e1
            cases r1 with
            | ok l2 =>
              obtain ⟨j1, j2, _⟩ := hsay
              have hor2 : l2 = l ∨ l.length < l2.length := by
                rcases j2 with rfl | j2
                · exact hor
                · rcases hor with rfl | hor
                  · exact .inr j2
                  · exact .inr (by omega)
              obtain ⟨n2, r2, e2⟩ := ihx ys l2 (fun t ht => hx t (by simp [ht])) (fun t ht => hy t (by simp [ht])) (by omega) j1 hor2 (by simpa using hlen)
              refine ⟨max n1 n2, r2, ?_⟩
              simp only [goArgs]
              rw [pairF_mono (Nat.le_max_left n1 n2) e1]
              exact goArgs_mono (fun l a b r e => pairF_mono (Nat.le_max_right n1 n2) e) _ _ _ _ e2
            | bad => exact ⟨n1, .bad, by simp only [goArgs]; rw [e1]⟩
            | loop => exact ⟨n1, .loop, by simp only [goArgs]; rw [e1]⟩
            | large => exact ⟨n1, .large, by simp only [goArgs]; rw [e1]⟩
      have tw : ∀ t : Ty, Inn W t → ∀ v, v ∈ (ap (lk l) t).args → Inn W v ∧ ap (lk l) v = v := fun t ht v hv => by
        have h1 := h.pur_ap ht
        have h2 : ∀ c, c ∈ l → ¬ Occ c.1 (ap (lk l) t) := fun c hc => h.free hc
        generalize ap (lk l) t = t' at *
        obtain ⟨k, m, args⟩ := t'
        refine ⟨⟨h1.1.sub v hv, fun n hn hq => h1.2 n (.arg hv hn) hq⟩, ap_free fun n hn => lk_none fun hm => ?_⟩
        obtain ⟨c, hc, rfl⟩ := List.mem_map.1 hm
        exact h2 c hc (.arg hv hn)
      have go : (ap (lk l) a).args.length = (ap (lk l) b).args.length → ∃ n r, goArgs (pairF big gt n) l (ap (lk l) a).args (ap (lk l) b).args = some r := fun hlen => by
        refine parts _ _ l (tw a ha) (tw b hb) ?_ h (.inl rfl) hlen
        have e1 : ∀ t : Ty, sz t = szs t.args + 1 := fun t => by cases t; exact sz_mk _ _ _
        rw [e1, e1] at hs
        omega
      by_cases hlen : (ap (lk l) a).args.length = (ap (lk l) b).args.length
      · obtain ⟨n, r, e⟩ := go hlen
        refine ⟨n + 1, ?_⟩
        simp only [pairF]
        rw [e]
        simp only [Bool.cond_eq_ite]
        repeat' split
        all_goals exact ⟨_, rfl⟩
      · refine ⟨1, ?_⟩
        have hl : ((ap (lk l) a).args.length == (ap (lk l) b).args.length) = false := by simpa using hlen
        simp only [pairF, hl, Bool.not_false, Bool.or_true, cond_true]
        simp only [Bool.cond_eq_ite]
        repeat' split
        all_goals exact ⟨_, rfl⟩
end Go.AL.S5.Un
