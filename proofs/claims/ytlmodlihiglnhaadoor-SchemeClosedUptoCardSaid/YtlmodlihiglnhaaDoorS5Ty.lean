/- Types as trees; names; the same; kinds; putting in. -/
import Derived.Test.YtlmodlihiglnhaaDoorS5EAll
import Derived.Test.YtlmodlihiglnhaaDoorAL4
set_option linter.unusedVariables false
set_option linter.unusedSimpArgs false
namespace Go.AL.S5
open Go Go.AL

abbrev Str := List UInt8
inductive Ty where
  | mk (k : Int) (nm : Str) (args : List Ty)
def Ty.kind : Ty → Int | .mk k _ _ => k
def Ty.name : Ty → Str | .mk _ n _ => n
def Ty.args : Ty → List Ty | .mk _ _ a => a
def Ty.enc : Ty → PV
  | .mk k nm args => .agg [.int .i64 k, .str nm, .lst (encs args)]
where encs : List Ty → List PV
  | [] => []
  | t :: l => t.enc :: encs l
theorem encs_map (l : List Ty) : Ty.enc.encs l = l.map Ty.enc := by
  induction l with
  | nil => rfl
  | cons t l ih => simp [Ty.enc.encs, ih]
theorem enc_mk (k : Int) (nm : Str) (args : List Ty) : (Ty.mk k nm args).enc = .agg [.int .i64 k, .str nm, .lst (args.map Ty.enc)] := by rw [Ty.enc, encs_map]
theorem ty_fits (t : Ty) : (Sh.agg [Sh.int .i64, Sh.str, Sh.lst]).fits t.enc = true := by cases t; rfl
theorem ty_k (t : Ty) : (t.enc.c 0).toInt = t.kind := by cases t; rfl
theorem ty_n (t : Ty) : (t.enc.c 1).toStr = t.name := by cases t; rfl
theorem ty_a (t : Ty) : (t.enc.c 2).toLst = t.args.map Ty.enc := by cases t; rw [enc_mk]; rfl
theorem ty_eta (t : Ty) : PV.agg [.int .i64 t.kind, .str t.name, .lst (t.args.map Ty.enc)] = t.enc := by cases t; rw [enc_mk]; rfl

theorem Ty.ind {Q : Ty → Prop} (h : ∀ k nm args, (∀ t, t ∈ args → Q t) → Q (.mk k nm args)) (t : Ty) : Q t := by
  have : ∀ (N : Nat) (t : Ty), SizeOf.sizeOf t < N → Q t := by
    intro N
    induction N with
    | zero => intro t ht; omega
    | succ N ih =>
      rintro ⟨k, nm, args⟩ ht
      refine h k nm args fun t hm => ih t ?_
      have h1 := List.sizeOf_lt_of_mem hm
      simp only [Ty.mk.sizeOf_spec] at ht
      omega
  exact this _ t (Nat.lt_succ_self _)

/-- All lists of parts are such as fit into memory. -/
inductive Okt : Ty → Prop where
  | mk {k : Int} {nm : Str} {args : List Ty} : args.length ≤ maxLen → args.length * 48 ≤ reachBytes → (∀ t, t ∈ args → Okt t) → Okt (.mk k nm args)
theorem Okt.len {k : Int} {nm : Str} {args : List Ty} (h : Okt (.mk k nm args)) : args.length ≤ maxLen := by cases h; assumption
theorem Okt.bytes {k : Int} {nm : Str} {args : List Ty} (h : Okt (.mk k nm args)) : args.length * 48 ≤ reachBytes := by cases h; assumption
theorem Okt.sub {k : Int} {nm : Str} {args : List Ty} (h : Okt (.mk k nm args)) : ∀ t, t ∈ args → Okt t := by cases h; assumption

/-! #### Names -/
def idx (s : Str) : List Str → Nat → Int
  | [], _ => -1
  | x :: l, k => bif s == x then k else idx s l (k + 1)
theorem l63 {xs : List Str} {s : Str} (hl : xs.length ≤ maxLen) : ∀ (l : List Str) (k : Nat), xs.drop k = l → L63_1014 (xs.map .str) s k = some (.pv (.int .i64 (idx s l k)), [])
  | [], k, h => by
    rw [e63_1014, endK_map h]
    rfl
  | x :: l, k, h => by
    have A := atK_map (f := PV.str) h hl
    have ih := l63 (s := s) hl l (k + 1) (atK h hl).drop
    rw [e63_1014]
    simp only [A.lt, A.ge, A.get, A.next, cond_true, Option.bind_some]
    simp only [fits_strS, toStr_str, cond_true, idx]
    cases s == x with
    | true => rfl
    | false => exact ih
theorem v63 {xs : List Str} {s : Str} (hl : xs.length ≤ maxLen) : V 63 [.pv (.lst (xs.map .str)), .pv (.str s)] = some (.pv (.int .i64 (idx s xs 0)), []) := by
  rw [e63]; exact l63 hl xs 0 rfl
theorem idx_spec (s : Str) : ∀ (l : List Str) (k : Nat), (idx s l k = -1 ∧ s ∉ l) ∨ ∃ j : Nat, idx s l k = ((k + j : Nat) : Int) ∧ l[j]? = some s
  | [], k => .inl ⟨rfl, by simp⟩
  | x :: l, k => by
    simp only [idx]
    cases hb : s == x with
    | true =>
      right
      have := beq_iff_eq.1 hb
      subst this
      exact ⟨0, by simp, by simp⟩
    | false =>
      have hne : s ≠ x := by simpa using hb
      rcases idx_spec s l (k + 1) with ⟨h1, h2⟩ | ⟨j, h1, h2⟩
      · left; exact ⟨by simpa using h1, by simp [hne, h2]⟩
      · right; exact ⟨j + 1, by simp only [cond_false]; rw [h1]; congr 1; omega, by simpa using h2⟩
def has (xs : List Str) (s : Str) : Bool := decide (s ∈ xs)
theorem v25 {xs : List Str} {s : Str} (hl : xs.length ≤ maxLen) : V 25 [.pv (.lst (xs.map .str)), .pv (.str s)] = some (.pv (.bool (has xs s)), []) := by
  rw [e25, v63 hl]
  simp only [Option.bind_some, retPV_pv, fits_i64, cond_true, toInt_int, has]
  rcases idx_spec s xs 0 with ⟨h1, h2⟩ | ⟨j, h1, h2⟩
  · rw [h1, decide_eq_false h2]; rfl
  · have hm := List.mem_of_getElem? h2
    rw [h1, decide_eq_true hm, decide_eq_true (by omega)]

/-! #### The same -/
mutual
def same : Ty → Ty → Bool
  | .mk k n a, .mk k' n' a' => k == k' && (n == n' && sames a a')
def sames : List Ty → List Ty → Bool
  | [], [] => true
  | t :: l, u :: m => same t u && sames l m
  | _, _ => false
end
theorem sames_length : ∀ {a b : List Ty}, sames a b = true → a.length = b.length
  | [], [], _ => rfl
  | t :: l, u :: m, h => by
    simp only [sames, Bool.and_eq_true] at h
    simp [sames_length h.2]
  | [], _ :: _, h => by simp [sames] at h
  | _ :: _, [], h => by simp [sames] at h
theorem l105 {a b : List Ty} (hl : a.length = b.length) (ha : a.length ≤ maxLen) (hs : ∀ t, t ∈ a → ∀ u, V 77 [.pv t.enc, .pv (Ty.enc u)] = some (.pv (.bool (same t u)), [])) :
    ∀ (l m : List Ty) (k : Nat), a.drop k = l → b.drop k = m → L105_11014 (b.map Ty.enc) 77 [] (a.map Ty.enc) k = some (.pv (.bool (sames l m)), [])
  | [], m, k, h, h2 => by
    have : m = [] := by
      have e1 := congrArg List.length h
      have e2 := congrArg List.length h2
      simp at e1 e2
      exact List.eq_nil_of_length_eq_zero (by omega)
    subst this
    rw [e105_11014, endK_map h]
    simp [sames]
  | x :: l, [], k, h, h2 => by
    have e1 := congrArg List.length h
    have e2 := congrArg List.length h2
    simp at e1 e2
    omega
  | x :: l, y :: m, k, h, h2 => by
    have A := atK_map (f := Ty.enc) h ha
    have A' := atK h ha
    have B := atK_map (f := Ty.enc) h2 (by omega)
    have ih := l105 hl ha hs l m (k + 1) A'.drop (atK h2 (by omega)).drop
    rw [e105_11014]
    simp only [A.lt, A.ge, A.get, A.next, B.get, cond_true, Option.bind_some]
    simp only [ty_fits, ty_k, ty_n, ty_a, ty_eta, cond_true, List.append_nil, List.map_cons, List.map_nil, hs x (List.mem_of_getElem? A'.get') y, Option.bind_some, retPV_pv, fits_bool, toBool_bool, sames]
    cases same x y with
    | false => rfl
    | true => exact ih
theorem v105 {a b : List Ty} (ha : a.length ≤ maxLen) (hs : ∀ t, t ∈ a → ∀ u, V 77 [.pv t.enc, .pv (Ty.enc u)] = some (.pv (.bool (same t u)), [])) : V 105 [.pv (.lst (a.map Ty.enc)), .pv (.lst (b.map Ty.enc)), .pv (.fn 77 [])] = some (.pv (.bool (sames a b)), []) := by
  rw [e105]
  simp only [List.length_map]
  by_cases h : a.length = b.length
  · rw [show ((a.length : Int) != (b.length : Int)) = false from by simp [h]]
    exact l105 h ha hs a b 0 rfl rfl
  · rw [show ((a.length : Int) != (b.length : Int)) = true from by simp; omega]
    simp only [cond_true]
    cases hb : sames a b with
    | false => rfl
    | true => exact absurd (sames_length hb) h
theorem v77 {t : Ty} (ht : Okt t) : ∀ u, V 77 [.pv t.enc, .pv (Ty.enc u)] = some (.pv (.bool (same t u)), []) := by
  revert ht
  refine Ty.ind (Q := fun t => Okt t → ∀ u, V 77 [.pv t.enc, .pv (Ty.enc u)] = some (.pv (.bool (same t u)), [])) (fun k nm args ih ht u => ?_) t
  obtain ⟨k', nm', args'⟩ := u
  rw [enc_mk, enc_mk, e77, v105 ht.len (fun t hm => ih t hm (ht.sub t hm))]
  simp only [Option.bind_some, retPV_pv, fits_bool, cond_true, toBool_bool, same]
  cases k == k' with
  | false => rfl
  | true => cases nm == nm' <;> rfl
theorem same_refl (t : Ty) : same t t = true := by
  refine Ty.ind (Q := fun t => same t t = true) (fun k nm args ih => ?_) t
  have : ∀ l : List Ty, (∀ t, t ∈ l → same t t = true) → sames l l = true := by
    intro l
    induction l with
    | nil => intro _; simp [sames]
    | cons t l ihl => intro h; simp only [sames, h t (by simp), ihl (fun u hu => h u (by simp [hu])), Bool.and_self]
  simp only [same, this args ih, beq_self_eq_true, Bool.and_self]
theorem same_eq {t u : Ty} : same t u = true → t = u := by
  revert u
  refine Ty.ind (Q := fun t => ∀ {u}, same t u = true → t = u) (fun k nm args ih u h => ?_) t
  obtain ⟨k', nm', args'⟩ := u
  simp only [same, Bool.and_eq_true, beq_iff_eq] at h
  obtain ⟨rfl, rfl, h⟩ := h
  have : ∀ (l m : List Ty), (∀ t, t ∈ l → ∀ {u}, same t u = true → t = u) → sames l m = true → l = m := by
    intro l
    induction l with
    | nil => intro m _ h; cases m with | nil => rfl | cons _ _ => simp [sames] at h
    | cons t l ihl =>
      intro m hi h
      cases m with
      | nil => simp [sames] at h
      | cons u m =>
        simp only [sames, Bool.and_eq_true] at h
        rw [hi t (by simp) h.1, ihl m (fun v hv => hi v (by simp [hv])) h.2]
  rw [this args args' (fun t hm => ih t hm) h]
end Go.AL.S5
