/- Patterns of four types, and the values that they fit: the plain law of coverage. No program in sight. -/
import Derived.Test.YtjfibflkfdpllaaGreatDoorAL5
set_option linter.unusedVariables false
set_option linter.unusedSimpArgs false
namespace Go.AL.S11
open Go Go.AL

/-- A pattern; a value has the same parts. -/
inductive Pa where
  | mk (k n : Int) (t : List UInt8) (args : List Pa)
mutual
def Pa.cells : Pa → List PV
  | .mk k n t args => [.int .i64 k, .int .i64 n, .str t, .lst (Pa.encs args)]
def Pa.encs : List Pa → List PV
  | [] => []
  | p :: l => .agg p.cells :: Pa.encs l
end
def Pa.enc (p : Pa) : PV := .agg p.cells
def Pa.args : Pa → List Pa | .mk _ _ _ a => a
def Pa.kind : Pa → Int | .mk k _ _ _ => k
def Pa.num : Pa → Int | .mk _ n _ _ => n
def Pa.text : Pa → List UInt8 | .mk _ _ t _ => t
theorem kind_mk (k n : Int) (t : List UInt8) (a : List Pa) : (Pa.mk k n t a).kind = k := rfl
theorem num_mk (k n : Int) (t : List UInt8) (a : List Pa) : (Pa.mk k n t a).num = n := rfl
theorem text_mk (k n : Int) (t : List UInt8) (a : List Pa) : (Pa.mk k n t a).text = t := rfl
theorem args_mk (k n : Int) (t : List UInt8) (a : List Pa) : (Pa.mk k n t a).args = a := rfl
theorem Pa.eta (p : Pa) : p = .mk p.kind p.num p.text p.args := by cases p; rfl
theorem Pa.encs_map (l : List Pa) : Pa.encs l = l.map Pa.enc := by
  induction l with
  | nil => simp [Pa.encs]
  | cons p l ih => simp [Pa.encs, ih, Pa.enc]
theorem pa_cells (p : Pa) : p.cells = [.int .i64 p.kind, .int .i64 p.num, .str p.text, .lst (p.args.map Pa.enc)] := by
  cases p; rw [Pa.cells, Pa.encs_map]; rfl
theorem pa_enc (p : Pa) : p.enc = .agg [.int .i64 p.kind, .int .i64 p.num, .str p.text, .lst (p.args.map Pa.enc)] := by rw [Pa.enc, pa_cells]
theorem pa_fits (p : Pa) : (Sh.agg [Sh.int .i64, Sh.int .i64, Sh.str, Sh.lst]).fits p.enc = true := by rw [pa_enc]; rfl
theorem pa_eta (p : Pa) : PV.agg [.int .i64 (p.enc.c 0).toInt, .int .i64 (p.enc.c 1).toInt, .str (p.enc.c 2).toStr, .lst (p.enc.c 3).toLst] = p.enc := by rw [pa_enc]; rfl
theorem pa_0 (p : Pa) : (p.enc.c 0).toInt = p.kind := by rw [pa_enc]; rfl
theorem pa_1 (p : Pa) : (p.enc.c 1).toInt = p.num := by rw [pa_enc]; rfl
theorem pa_2 (p : Pa) : (p.enc.c 2).toStr = p.text := by rw [pa_enc]; rfl
theorem pa_3 (p : Pa) : (p.enc.c 3).toLst = p.args.map Pa.enc := by rw [pa_enc]; rfl
theorem headOk_pa (l : List Pa) : headOk 4 (l.map Pa.enc) = true := by
  cases l with
  | nil => rfl
  | cons e l => simp [headOk, pa_enc, PV.cells]
theorem Pa.indL {Q : Pa → Prop} (h : ∀ p, (∀ a, a ∈ p.args → Q a) → Q p) : (∀ p, Q p) :=
  fun p => Pa.rec (motive_1 := Q) (motive_2 := fun l => ∀ a, a ∈ l → Q a) (fun k n t args ih => h _ ih) (fun a ha => absurd ha List.not_mem_nil) (fun p l h1 h2 a ha => by
    rcases List.mem_cons.1 ha with rfl | ha
    · exact h1
    · exact h2 a ha) p

abbrev anyP : Pa := .mk 1 0 [] []
def op (p : Pa) : Bool := p.kind == 1 || p.kind == 2
def alk (a b : Pa) : Bool := a.kind == b.kind && (a.num == b.num && (a.text == b.text && a.args.length == b.args.length))
def rowP (l : List Pa) (h : Pa) : Option (List Pa) :=
  match l with
  | [] => none
  | p :: ps => bif op p then some (List.replicate h.args.length anyP ++ ps) else bif alk p h then some (p.args ++ ps) else none
def rowsP (t : List (List Pa)) (h : Pa) : List (List Pa) := t.filterMap fun l => rowP l h
def colP (t : List (List Pa)) : List Pa := t.map fun l => l.headD anyP
def restR (l : List Pa) : Option (List Pa) := match l with | [] => none | p :: ps => bif op p then some ps else none
def restP (t : List (List Pa)) : List (List Pa) := t.filterMap restR

/-! ### Types -/
inductive Ty4 where | nat | pair | int | bool
def sZero : List UInt8 := [90, 101, 114, 111]
def sNext : List UInt8 := [78, 101, 120, 116]
def sPair : List UInt8 := [80, 97, 105, 114]
def sOne : List UInt8 := [79, 110, 101]
def sig : Ty4 → List (Pa × List Ty4)
  | .nat => [(.mk 6 0 sZero [], []), (.mk 6 0 sNext [anyP], [.nat])]
  | .pair => [(.mk 6 0 sPair [anyP, anyP], [.nat, .bool]), (.mk 6 0 sOne [anyP], [.int])]
  | .bool => [(.mk 4 0 [] [], []), (.mk 4 1 [] [], [])]
  | .int => []
mutual
def Pa.ok : Pa → Ty4 → Prop
  | .mk k n t args, τ => ((k = 1 ∨ k = 2) ∧ args = []) ∨ match τ with
    | .int => k = 3 ∧ t = [] ∧ args = []
    | .bool => k = 4 ∧ (n = 0 ∨ n = 1) ∧ t = [] ∧ args = []
    | .nat => k = 6 ∧ n = 0 ∧ ((t = sZero ∧ args = []) ∨ (t = sNext ∧ Pa.oks args [.nat]))
    | .pair => k = 6 ∧ n = 0 ∧ ((t = sPair ∧ Pa.oks args [.nat, .bool]) ∨ (t = sOne ∧ Pa.oks args [.int]))
def Pa.oks : List Pa → List Ty4 → Prop
  | [], τs => τs = []
  | p :: ps, τs => match τs with | [] => False | τ :: τs => p.ok τ ∧ Pa.oks ps τs
end
mutual
def Pa.vok : Pa → Ty4 → Prop
  | .mk k n t args, τ => match τ with
    | .int => k = 2 ∧ t = [] ∧ args = []
    | .bool => k = 3 ∧ (n = 0 ∨ n = 1) ∧ t = [] ∧ args = []
    | .nat => k = 5 ∧ n = 0 ∧ ((t = sZero ∧ args = []) ∨ (t = sNext ∧ Pa.voks args [.nat]))
    | .pair => k = 5 ∧ n = 0 ∧ ((t = sPair ∧ Pa.voks args [.nat, .bool]) ∨ (t = sOne ∧ Pa.voks args [.int]))
def Pa.voks : List Pa → List Ty4 → Prop
  | [], τs => τs = []
  | p :: ps, τs => match τs with | [] => False | τ :: τs => p.vok τ ∧ Pa.voks ps τs
end
/- Does a pattern fit a value? -/
mutual
def Pa.fit : Pa → Pa → Bool
  | .mk k n t args, v => bif k == 1 || k == 2 then true else bif k == 3 then v.kind == 2 && v.num == n else bif k == 4 then v.kind == 3 && v.num == n else bif k == 5 then v.kind == 4 && v.text == t
    else k == 6 && (v.kind == 5 && (t == v.text && (args.length == v.args.length && Pa.fits args v.args)))
def Pa.fits : List Pa → List Pa → Bool
  | [], _ => true
  | p :: ps, l => match l with | [] => false | v :: vs => p.fit v && Pa.fits ps vs
end
theorem oks_nil {l : List Pa} : Pa.oks l [] ↔ l = [] := by cases l <;> simp [Pa.oks]
theorem oks_cons {l : List Pa} {τ : Ty4} {τs : List Ty4} : Pa.oks l (τ :: τs) ↔ ∃ p ps, l = p :: ps ∧ p.ok τ ∧ Pa.oks ps τs := by
  cases l with
  | nil => simp [Pa.oks]
  | cons p ps => exact ⟨fun h => ⟨p, ps, rfl, h.1, h.2⟩, fun ⟨q, qs, e, h1, h2⟩ => by cases e; exact ⟨h1, h2⟩⟩
theorem voks_nil {l : List Pa} : Pa.voks l [] ↔ l = [] := by cases l <;> simp [Pa.voks]
theorem voks_cons {l : List Pa} {τ : Ty4} {τs : List Ty4} : Pa.voks l (τ :: τs) ↔ ∃ p ps, l = p :: ps ∧ p.vok τ ∧ Pa.voks ps τs := by
  cases l with
  | nil => simp [Pa.voks]
  | cons p ps => exact ⟨fun h => ⟨p, ps, rfl, h.1, h.2⟩, fun ⟨q, qs, e, h1, h2⟩ => by cases e; exact ⟨h1, h2⟩⟩
theorem oks_len : ∀ {l : List Pa} {τs : List Ty4}, Pa.oks l τs → l.length = τs.length
  | [], τs, h => by simp [Pa.oks] at h; subst h; rfl
  | p :: ps, [], h => by simp [Pa.oks] at h
  | p :: ps, τ :: τs, h => by simp only [Pa.oks] at h; simp [oks_len h.2]
theorem voks_len : ∀ {l : List Pa} {τs : List Ty4}, Pa.voks l τs → l.length = τs.length
  | [], τs, h => by simp [Pa.voks] at h; subst h; rfl
  | p :: ps, [], h => by simp [Pa.voks] at h
  | p :: ps, τ :: τs, h => by simp only [Pa.voks] at h; simp [voks_len h.2]
theorem oks_append : ∀ {l m : List Pa} {τs σs : List Ty4}, Pa.oks l τs → Pa.oks m σs → Pa.oks (l ++ m) (τs ++ σs)
  | [], m, τs, σs, h, k => by simp [Pa.oks] at h; subst h; exact k
  | p :: ps, m, [], σs, h, k => by simp [Pa.oks] at h
  | p :: ps, m, τ :: τs, σs, h, k => by simp only [Pa.oks] at h; exact ⟨h.1, oks_append h.2 k⟩
theorem voks_append : ∀ {l m : List Pa} {τs σs : List Ty4}, Pa.voks l τs → Pa.voks m σs → Pa.voks (l ++ m) (τs ++ σs)
  | [], m, τs, σs, h, k => by simp [Pa.voks] at h; subst h; exact k
  | p :: ps, m, [], σs, h, k => by simp [Pa.voks] at h
  | p :: ps, m, τ :: τs, σs, h, k => by simp only [Pa.voks] at h; exact ⟨h.1, voks_append h.2 k⟩
theorem oks_split : ∀ {τs σs : List Ty4} {l : List Pa}, Pa.oks l (τs ++ σs) → Pa.oks (l.take τs.length) τs ∧ Pa.oks (l.drop τs.length) σs
  | [], σs, l, h => ⟨rfl, h⟩
  | τ :: τs, σs, [], h => by simp [Pa.oks] at h
  | τ :: τs, σs, p :: ps, h => by
    simp only [List.cons_append, Pa.oks] at h
    obtain ⟨h1, h2⟩ := oks_split h.2
    exact ⟨⟨h.1, h1⟩, h2⟩
theorem voks_split : ∀ {τs σs : List Ty4} {l : List Pa}, Pa.voks l (τs ++ σs) → ∃ a b, l = a ++ b ∧ Pa.voks a τs ∧ Pa.voks b σs
  | [], σs, l, h => ⟨[], l, rfl, rfl, h⟩
  | τ :: τs, σs, [], h => by simp [Pa.voks] at h
  | τ :: τs, σs, p :: ps, h => by
    simp only [List.cons_append, Pa.voks] at h
    obtain ⟨a, b, rfl, h1, h2⟩ := voks_split h.2
    exact ⟨p :: a, b, rfl, ⟨h.1, h1⟩, h2⟩
theorem fits_append : ∀ {ps qs as vs : List Pa}, ps.length = as.length → Pa.fits (ps ++ qs) (as ++ vs) = (Pa.fits ps as && Pa.fits qs vs)
  | [], qs, [], vs, h => by simp [Pa.fits]
  | [], qs, a :: as, vs, h => by simp at h
  | p :: ps, qs, [], vs, h => by simp at h
  | p :: ps, qs, a :: as, vs, h => by
    simp only [List.cons_append, Pa.fits]
    rw [fits_append (by simpa using h), Bool.and_assoc]
theorem fit_op {p v : Pa} (h : op p = true) : p.fit v = true := by
  cases p with | mk k n t args =>
  unfold Pa.fit
  have h' : (k == 1 || k == 2) = true := h
  rw [h']
  rfl
theorem fits_any : ∀ {n : Nat} {as : List Pa}, as.length = n → Pa.fits (List.replicate n anyP) as = true
  | 0, as, h => by simp [Pa.fits]
  | n + 1, [], h => by simp at h
  | n + 1, a :: as, h => by
    simp only [List.replicate_succ, Pa.fits]
    rw [fit_op rfl, fits_any (by simpa using h)]
    rfl
theorem oks_any : ∀ (τs : List Ty4), Pa.oks (List.replicate τs.length anyP) τs
  | [] => rfl
  | τ :: τs => ⟨by unfold Pa.ok; exact .inl ⟨.inl rfl, rfl⟩, oks_any τs⟩

/-- The value of a head. -/
def valOf (h : Pa) (args : List Pa) : Pa := .mk (bif h.kind == 4 then 3 else 5) h.num h.text args
def patOf (h : Pa) (args : List Pa) : Pa := .mk h.kind h.num h.text args

theorem vok_heads {τ : Ty4} {v : Pa} (hs : sig τ ≠ []) (h : v.vok τ) : ∃ x, x ∈ sig τ ∧ v = valOf x.1 v.args ∧ Pa.voks v.args x.2 := by
  cases v with | mk k n t args =>
  unfold Pa.vok at h
  cases τ with
  | int => exact absurd rfl hs
  | bool =>
    obtain ⟨rfl, h2, rfl, rfl⟩ := h
    rcases h2 with rfl | rfl
    · exact ⟨_, List.mem_cons_self .., rfl, rfl⟩
    · exact ⟨_, List.mem_cons_of_mem _ (List.mem_cons_self ..), rfl, rfl⟩
  | nat =>
    obtain ⟨rfl, rfl, h⟩ := h
    rcases h with ⟨rfl, rfl⟩ | ⟨rfl, h⟩
    · exact ⟨_, List.mem_cons_self .., rfl, rfl⟩
    · exact ⟨_, List.mem_cons_of_mem _ (List.mem_cons_self ..), rfl, h⟩
  | pair =>
    obtain ⟨rfl, rfl, h⟩ := h
    rcases h with ⟨rfl, h⟩ | ⟨rfl, h⟩
    · exact ⟨_, List.mem_cons_self .., rfl, h⟩
    · exact ⟨_, List.mem_cons_of_mem _ (List.mem_cons_self ..), rfl, h⟩
theorem vok_val {τ : Ty4} {x : Pa × List Ty4} {args : List Pa} (hx : x ∈ sig τ) (h : Pa.voks args x.2) : (valOf x.1 args).vok τ := by
  cases τ with
  | int => exact absurd hx List.not_mem_nil
  | bool =>
    simp only [sig, List.mem_cons, List.not_mem_nil, or_false] at hx
    rcases hx with rfl | rfl <;> (simp only [voks_nil] at h; subst h; simp [valOf, Pa.vok, Pa.kind, Pa.num, Pa.text])
  | nat =>
    simp only [sig, List.mem_cons, List.not_mem_nil, or_false] at hx
    rcases hx with rfl | rfl
    · simp only [voks_nil] at h; subst h; simp [valOf, Pa.vok, Pa.kind, Pa.num, Pa.text]
    · simpa [valOf, Pa.vok, Pa.kind, Pa.num, Pa.text, sZero, sNext] using h
  | pair =>
    simp only [sig, List.mem_cons, List.not_mem_nil, or_false] at hx
    rcases hx with rfl | rfl
    · simpa [valOf, Pa.vok, Pa.kind, Pa.num, Pa.text, sPair, sOne] using h
    · simpa [valOf, Pa.vok, Pa.kind, Pa.num, Pa.text, sPair, sOne] using h
theorem ok_heads {τ : Ty4} {p : Pa} (h : p.ok τ) (ho : op p = false) : (τ = .int ∧ p = .mk 3 p.num [] []) ∨ ∃ x, x ∈ sig τ ∧ p = patOf x.1 p.args ∧ Pa.oks p.args x.2 := by
  cases p with | mk k n t args =>
  unfold Pa.ok at h
  rcases h with h | h
  · exfalso
    have ho' : (k == 1 || k == 2) = false := ho
    rcases h.1 with rfl | rfl <;> simp at ho'
  · cases τ with
    | int => obtain ⟨rfl, rfl, rfl⟩ := h; exact .inl ⟨rfl, rfl⟩
    | bool =>
      right
      obtain ⟨rfl, h2, rfl, rfl⟩ := h
      rcases h2 with rfl | rfl
      · exact ⟨_, List.mem_cons_self .., rfl, rfl⟩
      · exact ⟨_, List.mem_cons_of_mem _ (List.mem_cons_self ..), rfl, rfl⟩
    | nat =>
      right
      obtain ⟨rfl, rfl, h⟩ := h
      rcases h with ⟨rfl, rfl⟩ | ⟨rfl, h⟩
      · exact ⟨_, List.mem_cons_self .., rfl, rfl⟩
      · exact ⟨_, List.mem_cons_of_mem _ (List.mem_cons_self ..), rfl, h⟩
    | pair =>
      right
      obtain ⟨rfl, rfl, h⟩ := h
      rcases h with ⟨rfl, h⟩ | ⟨rfl, h⟩
      · exact ⟨_, List.mem_cons_self .., rfl, h⟩
      · exact ⟨_, List.mem_cons_of_mem _ (List.mem_cons_self ..), rfl, h⟩
theorem ok_pat {τ : Ty4} {x : Pa × List Ty4} {args : List Pa} (hx : x ∈ sig τ) (h : Pa.oks args x.2) : (patOf x.1 args).ok τ := by
  cases τ with
  | int => exact absurd hx List.not_mem_nil
  | bool =>
    simp only [sig, List.mem_cons, List.not_mem_nil, or_false] at hx
    rcases hx with rfl | rfl <;> (simp only [oks_nil] at h; subst h; simp [patOf, Pa.ok, Pa.kind, Pa.num, Pa.text])
  | nat =>
    simp only [sig, List.mem_cons, List.not_mem_nil, or_false] at hx
    rcases hx with rfl | rfl
    · simp only [oks_nil] at h; subst h; simp [patOf, Pa.ok, Pa.kind, Pa.num, Pa.text]
    · simpa [patOf, Pa.ok, Pa.kind, Pa.num, Pa.text, sZero, sNext] using h
  | pair =>
    simp only [sig, List.mem_cons, List.not_mem_nil, or_false] at hx
    rcases hx with rfl | rfl
    · simpa [patOf, Pa.ok, Pa.kind, Pa.num, Pa.text, sPair, sOne] using h
    · simpa [patOf, Pa.ok, Pa.kind, Pa.num, Pa.text, sPair, sOne] using h
theorem sig_len {τ : Ty4} {x : Pa × List Ty4} (hx : x ∈ sig τ) : x.1.args.length = x.2.length ∧ x.2.length ≤ 2 ∧ op x.1 = false ∧ (x.1.kind = 4 ∨ x.1.kind = 6) ∧ x.1.args = List.replicate x.2.length anyP := by
  cases τ <;> simp only [sig, List.mem_cons, List.not_mem_nil, or_false] at hx <;> first | exact hx.elim | (rcases hx with rfl | rfl <;> refine ⟨rfl, by decide, rfl, ?_, rfl⟩ <;> first | exact .inl rfl | exact .inr rfl)
/-- Which head, is told by its kind, number, text. -/
theorem sig_inj {τ : Ty4} {x y : Pa × List Ty4} (hx : x ∈ sig τ) (hy : y ∈ sig τ) : ((x.1.kind == y.1.kind && (x.1.num == y.1.num && (x.1.text == y.1.text && x.2.length == y.2.length))) = true ↔ x = y) ∧ (¬ x = y → (x.1.num == y.1.num && x.1.text == y.1.text) = false) := by
  cases τ <;> simp only [sig, List.mem_cons, List.not_mem_nil, or_false] at hx hy <;> first | exact hx.elim | (rcases hx with rfl | rfl <;> rcases hy with rfl | rfl <;> simp [Pa.kind, Pa.num, Pa.text, sZero, sNext, sPair, sOne])
theorem sig_kind {τ : Ty4} {x y : Pa × List Ty4} (hx : x ∈ sig τ) (hy : y ∈ sig τ) : x.1.kind = y.1.kind := by
  cases τ <;> simp only [sig, List.mem_cons, List.not_mem_nil, or_false] at hx hy <;> first | exact hx.elim | (rcases hx with rfl | rfl <;> rcases hy with rfl | rfl <;> rfl)
theorem fit_head {τ : Ty4} {x y : Pa × List Ty4} (hx : x ∈ sig τ) (hy : y ∈ sig τ) {as vs : List Pa} (ha : as.length = x.2.length) (hv : vs.length = y.2.length) :
    (patOf x.1 as).fit (valOf y.1 vs) = true ↔ (x = y ∧ Pa.fits as vs = true) := by
  have hk := sig_kind hx hy
  have h1 := (sig_inj hx hy).2
  unfold patOf valOf Pa.fit
  rcases (sig_len hx).2.2.2.1 with h4 | h4
  · have h4' := hk ▸ h4
    rw [h4, h4']
    have ha0 : as = [] ∧ vs = [] := by
      have e1 : x.2.length = 0 ∧ y.2.length = 0 := by
        cases τ <;> simp only [sig, List.mem_cons, List.not_mem_nil, or_false] at hx hy <;> first | exact hx.elim | (rcases hx with rfl | rfl <;> rcases hy with rfl | rfl <;> simp [Pa.kind] at h4 ⊢)
      exact ⟨List.length_eq_zero_iff.1 (by omega), List.length_eq_zero_iff.1 (by omega)⟩
    obtain ⟨rfl, rfl⟩ := ha0
    by_cases e : x = y
    · subst e; simp [kind_mk, num_mk, Pa.fits]
    · have h2 := h1 e
      have ht : x.1.text = y.1.text := by
        cases τ <;> simp only [sig, List.mem_cons, List.not_mem_nil, or_false] at hx hy <;> first | exact hx.elim | (rcases hx with rfl | rfl <;> rcases hy with rfl | rfl <;> simp [Pa.kind] at h4 <;> rfl)
      have h3 : (x.1.num == y.1.num) = false := by simpa [ht] using h2
      simp only [e, false_and, iff_false]
      have h3' : ¬ y.1.num = x.1.num := fun e => by rw [e] at h3; simp at h3
      simp [kind_mk, num_mk, h3']
  · have h4' := hk ▸ h4
    rw [h4, h4']
    by_cases e : x = y
    · subst e; simp [kind_mk, num_mk, text_mk, args_mk, ha, hv]
    · have h2 := h1 e
      have hn : x.1.num = y.1.num := by
        cases τ <;> simp only [sig, List.mem_cons, List.not_mem_nil, or_false] at hx hy <;> first | exact hx.elim | (rcases hx with rfl | rfl <;> rcases hy with rfl | rfl <;> simp [Pa.kind] at h4 <;> rfl)
      have h3 : ¬ x.1.text = y.1.text := fun e => by simp [hn, e] at h2
      simp only [e, false_and, iff_false]
      simp [kind_mk, num_mk, text_mk, h3]
theorem alk_head {τ : Ty4} {x y : Pa × List Ty4} (hx : x ∈ sig τ) (hy : y ∈ sig τ) {as bs : List Pa} (ha : as.length = x.2.length) (hb : bs.length = y.2.length) : alk (patOf x.1 as) (patOf y.1 bs) = true ↔ x = y := by
  rw [← (sig_inj hx hy).1]
  unfold alk patOf
  rw [show (Pa.mk x.1.kind x.1.num x.1.text as).args.length = x.2.length from ha, show (Pa.mk y.1.kind y.1.num y.1.text bs).args.length = y.2.length from hb]
  rfl
theorem op_pat {τ : Ty4} {x : Pa × List Ty4} (hx : x ∈ sig τ) (as : List Pa) : op (patOf x.1 as) = false := (sig_len hx).2.2.1

/-- A row, at a value of some head. -/
theorem row_fit {τ : Ty4} {τs : List Ty4} {x : Pa × List Ty4} (hx : x ∈ sig τ) {l : List Pa} (hl : Pa.oks l (τ :: τs)) {bs as vs : List Pa} (hb : bs.length = x.2.length) (ha : Pa.voks as x.2) :
    Pa.fits l (valOf x.1 as :: vs) = true ↔ ∃ m, rowP l (patOf x.1 bs) = some m ∧ Pa.fits m (as ++ vs) = true := by
  obtain ⟨p, ps, rfl, h1, h2⟩ := oks_cons.1 hl
  have hal := voks_len ha
  simp only [Pa.fits, rowP]
  cases ho : op p with
  | true =>
    rw [fit_op ho]
    simp only [cond_true, Bool.true_and, Option.some.injEq, exists_eq_left']
    rw [show (patOf x.1 bs).args.length = x.2.length from hb, fits_append (by simp [hal]), fits_any hal, Bool.true_and]
  | false =>
    simp only [cond_false]
    rcases ok_heads h1 ho with ⟨rfl, _⟩ | ⟨y, hy, e, hy2⟩
    · exact absurd hx List.not_mem_nil
    · have hyl := oks_len hy2
      rw [e]
      have k1 := fit_head hy hx hyl hal
      have k2 := alk_head hy hx hyl hb
      by_cases hxy : y = x
      · subst hxy
        have k3 : alk (patOf y.1 p.args) (patOf y.1 bs) = true := k2.2 rfl
        rw [k3]
        simp only [cond_true, Option.some.injEq, exists_eq_left', Bool.and_eq_true, k1, true_and]
        rw [show (patOf y.1 p.args).args = p.args from rfl, fits_append (by rw [hyl, hal]), Bool.and_eq_true]
      · have k3 : alk (patOf y.1 p.args) (patOf x.1 bs) = false := by
          cases h : alk (patOf y.1 p.args) (patOf x.1 bs) with
          | false => rfl
          | true => exact absurd (k2.1 h) hxy
        rw [k3]
        simp only [cond_false, Bool.and_eq_true, k1, hxy, false_and, false_iff]
        simp
theorem row_oks {τ : Ty4} {τs : List Ty4} {x : Pa × List Ty4} (hx : x ∈ sig τ) {l m : List Pa} (hl : Pa.oks l (τ :: τs)) {bs : List Pa} (hb : bs.length = x.2.length) (h : rowP l (patOf x.1 bs) = some m) : Pa.oks m (x.2 ++ τs) := by
  obtain ⟨p, ps, rfl, h1, h2⟩ := oks_cons.1 hl
  simp only [rowP] at h
  cases ho : op p with
  | true =>
    rw [ho] at h
    obtain rfl := Option.some.inj h
    rw [show (patOf x.1 bs).args.length = x.2.length from hb]
    exact oks_append (oks_any _) h2
  | false =>
    rw [ho] at h
    simp only [cond_false] at h
    rcases ok_heads h1 ho with ⟨rfl, _⟩ | ⟨y, hy, e, hy2⟩
    · exact absurd hx List.not_mem_nil
    · cases ha : alk p (patOf x.1 bs) with
      | false => rw [ha] at h; cases h
      | true =>
        rw [ha] at h
        obtain rfl := Option.some.inj h
        rw [e] at ha
        have := (alk_head hy hx (oks_len hy2) hb).1 ha
        subst this
        exact oks_append hy2 h2

/-! ### How many patterns have a head -/
mutual
def Pa.cnt : Pa → Nat
  | .mk k n t args => bif k == 1 || k == 2 then 0 else 1 + Pa.cntL args
def Pa.cntL : List Pa → Nat
  | [] => 0
  | p :: ps => p.cnt + Pa.cntL ps
end
def cntT : List (List Pa) → Nat
  | [] => 0
  | l :: t => Pa.cntL l + cntT t
theorem cntL_append : ∀ (l m : List Pa), Pa.cntL (l ++ m) = Pa.cntL l + Pa.cntL m
  | [], m => by simp [Pa.cntL]
  | p :: l, m => by simp [Pa.cntL, cntL_append l m]; omega
theorem cntL_any : ∀ n, Pa.cntL (List.replicate n anyP) = 0
  | 0 => rfl
  | n + 1 => by simp only [List.replicate_succ, Pa.cntL]; rw [cntL_any n]; rfl
theorem cntT_append : ∀ (l m : List (List Pa)), cntT (l ++ m) = cntT l + cntT m
  | [], m => by simp [cntT]
  | p :: l, m => by simp [cntT, cntT_append l m]; omega
theorem cnt_op {p : Pa} (h : op p = false) : p.cnt = 1 + Pa.cntL p.args := by
  cases p with | mk k n t args =>
  have h' : (k == 1 || k == 2) = false := h
  unfold Pa.cnt
  rw [h']
  rfl
theorem row_cnt {l m : List Pa} {h : Pa} (e : rowP l h = some m) : Pa.cntL m ≤ Pa.cntL l ∧ (op (l.headD anyP) = false → Pa.cntL m + 1 ≤ Pa.cntL l) := by
  cases l with
  | nil => cases e
  | cons p ps =>
    simp only [rowP] at e
    cases ho : op p with
    | true =>
      rw [ho] at e
      obtain rfl := Option.some.inj e
      simp only [cntL_append, cntL_any, Pa.cntL, List.headD_cons, ho]
      exact ⟨by omega, fun h => by cases h⟩
    | false =>
      rw [ho] at e
      simp only [cond_false] at e
      cases ha : alk p h with
      | false => rw [ha] at e; cases e
      | true =>
        rw [ha] at e
        obtain rfl := Option.some.inj e
        have := cnt_op ho
        simp only [cntL_append, Pa.cntL]
        exact ⟨by omega, fun _ => by omega⟩
theorem rows_cnt : ∀ (t : List (List Pa)) (h : Pa), (∀ l, l ∈ t → l ≠ []) → cntT (rowsP t h) ≤ cntT t ∧ ((∃ p, p ∈ colP t ∧ op p = false) → cntT (rowsP t h) + 1 ≤ cntT t)
  | [], h, hne => ⟨Nat.le_refl _, fun ⟨p, hp, _⟩ => absurd hp List.not_mem_nil⟩
  | l :: t, h, hne => by
    obtain ⟨i1, i2⟩ := rows_cnt t h fun l hl => hne l (List.mem_cons_of_mem _ hl)
    have hrow : (rowsP (l :: t) h) = match rowP l h with | some m => m :: rowsP t h | none => rowsP t h := by
      unfold rowsP; rw [List.filterMap_cons]; cases rowP l h <;> rfl
    rw [hrow]
    cases hm : rowP l h with
    | some m =>
      obtain ⟨j1, j2⟩ := row_cnt hm
      simp only [cntT]
      refine ⟨by omega, fun ⟨p, hp, hpo⟩ => ?_⟩
      simp only [colP, List.map_cons, List.mem_cons] at hp
      rcases hp with rfl | hp
      · have := j2 hpo; omega
      · have := i2 ⟨p, hp, hpo⟩; omega
    | none =>
      simp only [cntT]
      refine ⟨by omega, fun ⟨p, hp, hpo⟩ => ?_⟩
      simp only [colP, List.map_cons, List.mem_cons] at hp
      rcases hp with rfl | hp
      · have : 1 ≤ Pa.cntL l := by
          cases l with
          | nil => exact absurd rfl (hne _ (List.mem_cons_self ..))
          | cons p ps => simp only [List.headD_cons] at hpo; have := cnt_op hpo; simp only [Pa.cntL]; omega
        omega
      · have := i2 ⟨p, hp, hpo⟩; omega
theorem rest_cnt : ∀ (t : List (List Pa)), cntT (restP t) ≤ cntT t
  | [] => Nat.le_refl _
  | l :: t => by
    have i1 := rest_cnt t
    have hrow : (restP (l :: t)) = match restR l with | some m => m :: restP t | none => restP t := by
      unfold restP; rw [List.filterMap_cons]; cases restR l <;> rfl
    rw [hrow]
    cases l with
    | nil => simp only [restR, cntT]; omega
    | cons p ps =>
      simp only [restR]
      cases op p with
      | true => simp only [cond_true, cntT, Pa.cntL]; omega
      | false => simp only [cond_false, cntT]; omega
theorem rows_len (t : List (List Pa)) (h : Pa) : (rowsP t h).length ≤ t.length := List.length_filterMap_le ..
theorem rest_len (t : List (List Pa)) : (restP t).length ≤ t.length := List.length_filterMap_le ..
/-- Each type has a value. -/
theorem vok_some : ∀ (τ : Ty4), ∃ v : Pa, v.vok τ
  | .int => ⟨.mk 2 0 [] [], by unfold Pa.vok; exact ⟨rfl, rfl, rfl⟩⟩
  | .bool => ⟨.mk 3 0 [] [], by unfold Pa.vok; exact ⟨rfl, .inl rfl, rfl, rfl⟩⟩
  | .nat => ⟨.mk 5 0 sZero [], by unfold Pa.vok; exact ⟨rfl, rfl, .inl ⟨rfl, rfl⟩⟩⟩
  | .pair => ⟨.mk 5 0 sOne [.mk 2 0 [] []], by unfold Pa.vok; refine ⟨rfl, rfl, .inr ⟨rfl, ?_⟩⟩; simp [Pa.voks, Pa.vok]⟩
theorem ok_args {τ : Ty4} {p : Pa} (h : p.ok τ) : p.args.length ≤ 2 := by
  cases p with | mk k n t args =>
  unfold Pa.ok at h
  show args.length ≤ 2
  rcases h with h | h
  · simp [h.2]
  · cases τ with
    | int => simp [h.2.2]
    | bool => simp [h.2.2.2]
    | nat => rcases h.2.2 with h | h
             · simp [h.2]
             · have := oks_len h.2; simp at this; omega
    | pair => rcases h.2.2 with h | h
              · have := oks_len h.2; simp at this; omega
              · have := oks_len h.2; simp at this; omega
end Go.AL.S11
