/- Types made alike: what the program's parts come to (putting in, unknowns, sizes, one more bound). -/
import Derived.Test.YtlmodlihiglnhaaDoorS5UnifB
set_option linter.unusedVariables false
set_option linter.unusedSimpArgs false
namespace Go.AL.S5.Un
open Go Go.AL Go.AL.S5

def BIG : Nat := 1048576
theorem headOk_str (l : List Str) : headOk 1 (l.map .str) = true := by cases l <;> rfl

theorem mem_drop {α : Type} {xs : List α} {k : Nat} {y : α} {l : List α} (h : xs.drop k = y :: l) : y ∈ xs := List.mem_of_mem_drop (by rw [h]; simp)
theorem take_succ' {α : Type} {xs : List α} {k : Nat} {y : α} {l : List α} (h : xs.drop k = y :: l) : xs.take (k + 1) = xs.take k ++ [y] := by
  have hg : xs[k]? = some y := by
    have := congrArg (fun l => l[0]?) h
    simpa using this
  rw [List.take_add_one, hg]; rfl

/-! #### Unknowns -/
theorem v106 (s : Str) : V 106 [.pv (.str s), .pv (.str [63])] = some (.pv (.bool (decide (qn s))), []) := by
  rw [e106, e125]
  cases s with
  | nil => rfl
  | cons c s =>
    have e1 : decide (((c :: s).length : Int) ≥ (([63] : List UInt8).length : Int)) = true := decide_eq_true (by simp; omega)
    have e2 : decide ((([63] : List UInt8).length : Int) ≤ ((c :: s).length : Int)) = true := decide_eq_true (by simp; omega)
    have e3 : ((c :: s).take ((([63] : List UInt8).length : Int)).toNat == [63]) = decide (qn (c :: s)) := by
      have : (c :: s).take ((([63] : List UInt8).length : Int)).toNat = [c] := by simp
      rw [this]
      by_cases h : c = 63
      · subst h; rw [decide_eq_true (show qn (63 :: s) from rfl)]; rfl
      · rw [decide_eq_false (show ¬ qn (c :: s) from fun e => h (by simpa [qn] using e))]
        simpa using h
    rw [e1, e3]
    rfl
theorem v79 (t : Ty) : V 79 [.pv t.enc] = some (.pv (.bool (unk t)), []) := by
  obtain ⟨k, n, a⟩ := t
  rw [enc_mk, e79, v106]
  show _ = some (Arg.pv (.bool (k == 5 && (a.isEmpty && decide (qn n)))), [])
  cases hk : k == 5 with
  | false => rfl
  | true =>
    cases a with
    | nil => rfl
    | cons x a =>
      have : ((((x :: a).map Ty.enc).length : Int) == 0) = false := beq_eq_false_iff_ne.2 (by simp; omega)
      rw [this]
      rfl
/-- An unknown in a type. -/
inductive OccU (n : Str) : Ty → Prop where
  | here : qn n → OccU n (var n)
  | arg {k : Int} {m : Str} {a : List Ty} {t : Ty} : t ∈ a → OccU n t → OccU n (.mk k m a)
theorem OccU.occ {n : Str} {t : Ty} (h : OccU n t) : Occ n t ∧ qn n := by
  induction h with
  | here h => exact ⟨.here, h⟩
  | arg h1 _ ih => exact ⟨.arg h1 ih.1, ih.2⟩
theorem OccU.of {n : Str} {t : Ty} (hp : Pur t) (h : Occ n t) (hq : qn n) : OccU n t := by
  induction h with
  | here => rw [hp.five rfl]; exact .here hq
  | arg h1 _ ih => exact .arg h1 (ih (hp.sub _ h1))
theorem occU_inv {n : Str} {k : Int} {m : Str} {a : List Ty} : OccU n (.mk k m a) ↔ (unk (.mk k m a) = true ∧ m = n) ∨ ∃ t, t ∈ a ∧ OccU n t := by
  constructor
  · intro h
    generalize ht : Ty.mk k m a = t at h
    cases h with
    | here hq =>
      simp only [var, Ty.mk.injEq] at ht
      obtain ⟨rfl, rfl, rfl⟩ := ht
      exact .inl ⟨unk_iff.2 ⟨_, rfl, hq⟩, rfl⟩
    | arg h1 h2 =>
      simp only [Ty.mk.injEq] at ht
      obtain ⟨rfl, rfl, rfl⟩ := ht
      exact .inr ⟨_, h1, h2⟩
  · rintro (⟨h, rfl⟩ | ⟨t, h1, h2⟩)
    · obtain ⟨n, e, hq⟩ := unk_iff.1 h
      rw [e]
      simp only [var, Ty.mk.injEq] at e
      obtain ⟨rfl, rfl, rfl⟩ := e
      exact .here hq
    · exact .arg h1 h2
def okN (W : List Str) (t : Ty) : Prop := ∀ out : List Str, out.Nodup → (∀ n, n ∈ out → n ∈ W) → (∀ n, OccU n t → n ∈ W) → ∃ r : List Str, V 40 [.pv t.enc, .bld 1 (out.map .str)] = some (.bld 1 (r.map .str), []) ∧ r.Nodup ∧ ∀ n, n ∈ r ↔ n ∈ out ∨ OccU n t
theorem l40 {W : List Str} {args : List Ty} (hl : args.length ≤ maxLen) (hs : ∀ t, t ∈ args → okN W t) : ∀ (l : List Ty) (k : Nat) (out : List Str), args.drop k = l → out.Nodup → (∀ n, n ∈ out → n ∈ W) → (∀ t, t ∈ args → ∀ n, OccU n t → n ∈ W) →
    ∃ r : List Str, L40_11014 (out.map .str) (args.map Ty.enc) k = some (.bld 1 (r.map .str), []) ∧ r.Nodup ∧ ∀ n, n ∈ r ↔ n ∈ out ∨ ∃ t, t ∈ l ∧ OccU n t
  | [], k, out, h, hn, _, _ => ⟨out, by rw [e40_11014, endK_map h]; rfl, hn, by simp⟩
  | x :: l, k, out, h, hn, hW, hO => by
    have A := atK_map (f := Ty.enc) h hl
    have A' := atK h hl
    have hx := mem_drop h
    obtain ⟨o2, v1, v2, v3⟩ := hs x hx out hn hW (hO x hx)
    obtain ⟨r, g1, g2, g3⟩ := l40 hl hs l (k + 1) o2 A'.drop v2 (fun n hn => by rcases (v3 n).1 hn with h | h; exact hW n h; exact hO x hx n h) hO
    refine ⟨r, ?_, g2, fun n => ?_⟩
    · rw [e40_11014]
      simp only [A.lt, A.ge, A.get, A.next, cond_true, Option.bind_some]
      simp only [ty_fits, ty_k, ty_n, ty_a, ty_eta, cond_true, v1, Option.bind_some, retB_bld]
      exact g1
    · rw [g3 n, v3 n]
      simp only [List.mem_cons, exists_eq_or_imp, or_assoc]
theorem v40 {W : List Str} (hWl : W.length ≤ 4 * BIG) {t : Ty} : Okt t → okN W t := by
  refine Ty.ind (Q := fun t => Okt t → okN W t) (fun k nm args ih ht => ?_) t
  intro out hn hW hO
  have hsub : ∀ t, t ∈ args → okN W t := fun t h => ih t h (ht.sub t h)
  have hOa : ∀ t, t ∈ args → ∀ n, OccU n t → n ∈ W := fun t h n ho => hO n (.arg h ho)
  have hol : out.length ≤ W.length := nodup_sub out W hn hW
  have hmx : out.length ≤ maxLen := by simp only [BIG] at hWl; simp [maxLen]; omega
  have fin : ∀ o : List Str, o.Nodup → (∀ n, n ∈ o → n ∈ W) → ∃ r : List Str, L40_116 (o.map .str) k nm (args.map Ty.enc) = some (.bld 1 (r.map .str), []) ∧ r.Nodup ∧ ∀ n, n ∈ r ↔ n ∈ o ∨ ∃ t, t ∈ args ∧ OccU n t := fun o h1 h2 => by
    obtain ⟨r, g1, g2, g3⟩ := l40 ht.len hsub args 0 o rfl h1 h2 hOa
    exact ⟨r, by rw [e40_116]; exact g1, g2, g3⟩
  have hv := v79 (.mk k nm args)
  have he : V 40 [.pv (Ty.mk k nm args).enc, .bld 1 (out.map .str)] = bif unk (.mk k nm args) then L40_1016 (out.map .str) (!(has out nm)) k nm (args.map Ty.enc) else L40_1016 (out.map .str) false k nm (args.map Ty.enc) := by
    rw [enc_mk] at hv ⊢
    rw [e40, hv]
    simp only [Option.bind_some, retPV_pv, fits_bool, toBool_bool, cond_true]
    rw [v25 hmx]
    simp only [Option.bind_some, retPV_pv, fits_bool, toBool_bool, cond_true]
  rw [he]
  have add : (unk (.mk k nm args) && !has out nm) = false → (∀ n, (n ∈ out ∨ ∃ t, t ∈ args ∧ OccU n t) ↔ n ∈ out ∨ OccU n (.mk k nm args)) := fun hb n => by
    rw [occU_inv]
    constructor
    · rintro (h | h)
      · exact .inl h
      · exact .inr (.inr h)
    · rintro (h | ⟨h1, rfl⟩ | h)
      · exact .inl h
      · rw [h1] at hb
        simp only [Bool.true_and, Bool.not_eq_false'] at hb
        exact .inl (of_decide_eq_true hb)
      · exact .inr h
  cases hu : unk (.mk k nm args) with
  | false =>
    simp only [cond_false]
    rw [e40_1016]
    simp only [cond_false]
    obtain ⟨r, g1, g2, g3⟩ := fin out hn hW
    exact ⟨r, g1, g2, fun n => (g3 n).trans (add (by rw [hu]; rfl) n)⟩
  | true =>
    simp only [cond_true]
    rw [e40_1016]
    cases hh : has out nm with
    | true =>
      simp only [Bool.not_true, cond_false]
      obtain ⟨r, g1, g2, g3⟩ := fin out hn hW
      exact ⟨r, g1, g2, fun n => (g3 n).trans (add (by rw [hh]; simp) n)⟩
    | false =>
      have hnm : nm ∉ out := of_decide_eq_false hh
      have ho : OccU nm (.mk k nm args) := occU_inv.2 (.inl ⟨hu, rfl⟩)
      have hs : small (out.map PV.str).length 1 16 = true := small_of (by simp only [BIG] at hWl; simp; omega)
      simp only [Bool.not_false, cond_true, hs]
      rw [show out.map PV.str ++ ([.str nm] : List PV) = (out ++ [nm]).map .str by simp]
      obtain ⟨r, g1, g2, g3⟩ := fin (out ++ [nm]) (by
        rw [List.nodup_append]
        exact ⟨hn, by simp, fun a ha b hb e => by simp at hb; subst hb; exact hnm (e ▸ ha)⟩) (fun n h => by
        rcases List.mem_append.1 h with h | h
        · exact hW n h
        · rw [List.mem_singleton.1 h]; exact hO nm ho)
      refine ⟨r, g1, g2, fun n => (g3 n).trans ?_⟩
      rw [occU_inv, List.mem_append, List.mem_singleton]
      constructor
      · rintro ((h | rfl) | h)
        · exact .inl h
        · exact .inr (.inl ⟨hu, rfl⟩)
        · exact .inr (.inr h)
      · rintro (h | ⟨_, rfl⟩ | h)
        · exact .inl (.inl h)
        · exact .inl (.inr rfl)
        · exact .inr h
theorem v17 {W : List Str} (hWl : W.length ≤ 4 * BIG) {t : Ty} (ht : Okt t) (hO : ∀ n, OccU n t → n ∈ W) : ∃ r : List Str, V 17 [.pv t.enc] = some (.bld 1 (r.map .str), []) ∧ r.Nodup ∧ ∀ n, n ∈ r ↔ OccU n t := by
  obtain ⟨r, g1, g2, g3⟩ := v40 hWl ht [] List.nodup_nil (by simp) hO
  refine ⟨r, ?_, g2, fun n => by simpa using g3 n⟩
  have h0 := e17 t.kind t.name (t.args.map Ty.enc)
  rw [ty_eta] at h0
  simp only [List.map_nil] at g1
  rw [h0, g1]
  simp only [Option.bind_some, retB_bld]

end Go.AL.S5.Un
