/- Types made alike: what the program's parts come to (putting in, unknowns, sizes, one more bound). -/
import Derived.Test.YtlmodlihiglnhaaS4UnifB
import Derived.Test.YtlmodlihiglnhaaS4Sort
import Derived.Test.YtlmodlihiglnhaaS4EPair
set_option linter.unusedVariables false
set_option linter.unusedSimpArgs false
namespace Go.AL.S4.Un
open Go Go.AL Go.AL.S4

def BIG : Nat := 1048576
def eB (b : Bd) : PV := .agg [.str b.1, .int .i64 b.2.kind, .str b.2.name, .lst (b.2.args.map Ty.enc)]
theorem eB_fits (b : Bd) : (Sh.agg [Sh.str, Sh.int .i64, Sh.str, Sh.lst]).fits (eB b) = true := nrfl rfl
theorem eB_0 (b : Bd) : ((eB b).c 0).toStr = b.1 := nrfl rfl
theorem eB_1 (b : Bd) : ((eB b).c 1).toInt = b.2.kind := nrfl rfl
theorem eB_2 (b : Bd) : ((eB b).c 2).toStr = b.2.name := nrfl rfl
theorem eB_3 (b : Bd) : ((eB b).c 3).toLst = b.2.args.map Ty.enc := nrfl rfl
theorem eB_mk (n : Str) (t : Ty) : PV.agg [.str n, .int .i64 t.kind, .str t.name, .lst (t.args.map Ty.enc)] = eB (n, t) := nrfl rfl
theorem headOk_str (l : List Str) : headOk 1 (l.map .str) = true := by cases l <;> rfl

theorem mem_drop {α : Type} {xs : List α} {k : Nat} {y : α} {l : List α} (h : xs.drop k = y :: l) : y ∈ xs := List.mem_of_mem_drop (by rw [h]; simp)
theorem take_succ' {α : Type} {xs : List α} {k : Nat} {y : α} {l : List α} (h : xs.drop k = y :: l) : xs.take (k + 1) = xs.take k ++ [y] := by
  have hg : xs[k]? = some y := by
    have := congrArg (fun l => l[0]?) h
    simpa using this
  rw [List.take_add_one, hg]; rfl

/-! #### Putting in -/
theorem putAt_lk (l : List Bd) (n : Str) : putAt (l.map (·.1)) (l.map (·.2)) n = lk l n := by
  have key : ∀ (m : List Bd) (k : Nat), (idx n (m.map (·.1)) k = -1 ∧ lk m n = none) ∨ ∃ j u, idx n (m.map (·.1)) k = ((k + j : Nat) : Int) ∧ (m.map (·.2))[j]? = some u ∧ lk m n = some u := by
    intro m
    induction m with
    | nil => intro k; exact .inl ⟨rfl, rfl⟩
    | cons b m ih =>
      intro k
      simp only [List.map_cons, idx, lk]
      by_cases hb : b.1 = n
      · right
        refine ⟨0, b.2, ?_, rfl, by rw [if_pos hb]⟩
        rw [show (n == b.1) = true from by simp [hb]]; simp
      · rw [show (n == b.1) = false from by simpa using fun e => hb e.symm, if_neg hb]
        simp only [cond_false]
        rcases ih (k + 1) with ⟨h1, h2⟩ | ⟨j, u, h1, h2, h3⟩
        · exact .inl ⟨h1, h2⟩
        · exact .inr ⟨j + 1, u, by rw [h1]; congr 1; omega, by simpa using h2, h3⟩
  unfold putAt
  rcases key l 0 with ⟨h1, h2⟩ | ⟨j, u, h1, h2, h3⟩
  · rw [h1, h2]; rfl
  · rw [h1, h3, decide_eq_true (by omega)]
    simp only [cond_true]
    rw [show (((0 + j : Nat) : Int)).toNat = j by omega, h2]
theorem put_ap (l : List Bd) (t : Ty) : put (l.map (·.1)) (l.map (·.2)) t = ap (lk l) t := by
  refine Ty.ind (Q := fun t => put (l.map (·.1)) (l.map (·.2)) t = ap (lk l) t) (fun k n a ih => ?_) t
  rw [put, ap, putAt_lk, puts_map, aps_map, List.map_congr_left ih]
  cases (bif k == 5 then lk l n else none) <;> rfl
theorem okt_ap {l : List Bd} (hl : ∀ b, b ∈ l → Okt b.2) {t : Ty} (ht : Okt t) : Okt (ap (lk l) t) := by
  rw [← put_ap]
  exact okt_put (fun u hu => by obtain ⟨b, hb, rfl⟩ := List.mem_map.1 hu; exact hl b hb) ht
theorem put_end {l : List Bd} (hl : l.length ≤ 4 * BIG) (hls : ∀ b, b ∈ l → Okt b.2) {t : Ty} (ht : Okt t) : V 55 [.pv t.enc, .pv (.lst (l.map fun b => .str b.1)), .pv (.lst (l.map fun b => b.2.enc))] = some (.pv (ap (lk l) t).enc, []) := by
  have := v55 (names := l.map (·.1)) (l := l.map (·.2)) (by simp only [BIG] at hl; simp [maxLen]; omega) (fun u hu => by obtain ⟨b, hb, rfl⟩ := List.mem_map.1 hu; exact hls b hb) ht
  rw [put_ap, List.map_map, List.map_map] at this
  exact this
theorem l20 {l : List Bd} (hl : l.length ≤ 4 * BIG) (hls : ∀ b, b ∈ l → Okt b.2) {t : Ty} (ht : Okt t) : ∀ (m : List Bd) (k : Nat), l.drop k = m →
    L20_111014 ((l.take k).map fun b => .str b.1) ((l.take k).map fun b => b.2.enc) (l.map eB) k t.kind t.name (t.args.map Ty.enc) = some (.pv (ap (lk l) t).enc, [.vec (l.map eB)])
  | [], k, h => by
    have hk : l.length ≤ k := by have := congrArg List.length h; simp at this; omega
    rw [e20_111014, endK_map h, List.take_of_length_le hk, ty_eta, put_end hl hls ht]
    simp only [cond_false, Option.bind_some, retPV_pv, ty_fits, cond_true, ty_k, ty_n, ty_a, ty_eta]
  | b :: m, k, h => by
    have A := atK_map (f := eB) h (by simp only [BIG] at hl; simp [maxLen]; omega)
    have A' := atK h (by simp only [BIG] at hl; simp [maxLen]; omega)
    have ih := l20 hl hls ht m (k + 1) A'.drop
    have s1 : small ((l.take k).map fun b : Bd => PV.str b.1).length 1 16 = true := small_of (by simp only [BIG] at hl; simp; omega)
    have s2 : small ((l.take k).map fun b : Bd => b.2.enc).length 1 48 = true := small_of (by simp only [BIG] at hl; simp; omega)
    rw [e20_111014]
    simp only [A.lt, A.ge, A.get, A.next, cond_true, Option.bind_some, Bool.and_self]
    simp only [eB_fits, eB_0, eB_1, eB_2, eB_3, ty_eta, cond_true, s1, s2]
    rw [take_succ' h, List.map_append, List.map_append] at ih
    exact ih
theorem all4 (l : List Bd) : ((l.map eB).all fun x => Nat.beq x.cells.length 4) = true := by
  rw [List.all_map]; exact List.all_eq_true.2 fun x _ => rfl
theorem v20 {l : List Bd} (hl : l.length ≤ 4 * BIG) (hls : ∀ b, b ∈ l → Okt b.2) {t : Ty} (ht : Okt t) : V 20 [.vec 4 (l.map eB), .pv t.enc] = some (.pv (ap (lk l) t).enc, [.vec (l.map eB)]) := by
  rw [← ty_eta t, e20, all4]
  simp only [Bool.and_self, cond_true]
  have := l20 hl hls ht l 0 rfl
  exact this
theorem l20p {l : List Bd} (hl : l.length ≤ 4 * BIG) (hls : ∀ b, b ∈ l → Okt b.2) {t : Ty} (ht : Okt t) : ∀ (m : List Bd) (k : Nat), l.drop k = m →
    L20p_111014 ((l.take k).map fun b => .str b.1) ((l.take k).map fun b => b.2.enc) (l.map eB) k t.kind t.name (t.args.map Ty.enc) = some (.pv (ap (lk l) t).enc, [])
  | [], k, h => by
    have hk : l.length ≤ k := by have := congrArg List.length h; simp at this; omega
    rw [e20p_111014, endK_map h, List.take_of_length_le hk, ty_eta, put_end hl hls ht]
    simp only [cond_false, Option.bind_some, retPV_pv, ty_fits, cond_true, ty_k, ty_n, ty_a, ty_eta]
  | b :: m, k, h => by
    have A := atK_map (f := eB) h (by simp only [BIG] at hl; simp [maxLen]; omega)
    have A' := atK h (by simp only [BIG] at hl; simp [maxLen]; omega)
    have ih := l20p hl hls ht m (k + 1) A'.drop
    have s1 : small ((l.take k).map fun b : Bd => PV.str b.1).length 1 16 = true := small_of (by simp only [BIG] at hl; simp; omega)
    have s2 : small ((l.take k).map fun b : Bd => b.2.enc).length 1 48 = true := small_of (by simp only [BIG] at hl; simp; omega)
    rw [e20p_111014]
    simp only [A.lt, A.ge, A.get, A.next, cond_true, Option.bind_some, Bool.and_self]
    simp only [eB_fits, eB_0, eB_1, eB_2, eB_3, ty_eta, cond_true, s1, s2]
    rw [take_succ' h, List.map_append, List.map_append] at ih
    exact ih
theorem v20p {l : List Bd} (hl : l.length ≤ 4 * BIG) (hls : ∀ b, b ∈ l → Okt b.2) {t : Ty} (ht : Okt t) : V 20 [.pv (.lst (l.map eB)), .pv t.enc] = some (.pv (ap (lk l) t).enc, []) := by
  rw [← ty_eta t, e20p]
  have := l20p hl hls ht l 0 rfl
  exact this

/-! #### Unknowns -/
theorem v115 (s : Str) : V 115 [.pv (.str s), .pv (.str [63])] = some (.pv (.bool (decide (qn s))), []) := by
  rw [e115, e135]
  cases s with
  | nil => rfl
  | cons c s =>
    have e1 : decide (((c :: s).length : Int) ≥ (([63] : List UInt8).length : Int)) = true := decide_eq_true (by simp; omega)
    have e2 : decide ((([63] : List UInt8).length : Int) ≤ ((c :: s).length : Int)) = true := decide_eq_true (by simp; omega)
    have e3 : ((c :: s).take ((([63] : List UInt8).length : Int)).toNat == [63]) = decide (qn (c :: s)) := by
      have : (c :: s).take ((([63] : List UInt8).length : Int)).toNat = [c] := by simp
      rw [this]
      by_cases h : c = 63
      · subst h; rw [decide_eq_true (show qn (63 :: s) from rfl)]; rfl
      · rw [decide_eq_false (show ¬ qn (c :: s) from fun e => h (by simpa [qn] using e))]
        simpa using h
    rw [e1, e3]
    rfl
theorem v81 (t : Ty) : V 81 [.pv t.enc] = some (.pv (.bool (unk t)), []) := by
  obtain ⟨k, n, a⟩ := t
  rw [enc_mk, e81, v115]
  show _ = some (Arg.pv (.bool (k == 5 && (a.isEmpty && decide (qn n)))), [])
  cases hk : k == 5 with
  | false => rfl
  | true =>
    cases a with
    | nil => rfl
    | cons x a =>
      have : ((((x :: a).map Ty.enc).length : Int) == 0) = false := beq_eq_false_iff_ne.2 (by simp; omega)
      rw [this]
      rfl
/-- An unknown in a type. -/
inductive OccU (n : Str) : Ty → Prop where
  | here : qn n → OccU n (var n)
  | arg {k : Int} {m : Str} {a : List Ty} {t : Ty} : t ∈ a → OccU n t → OccU n (.mk k m a)
theorem OccU.occ {n : Str} {t : Ty} (h : OccU n t) : Occ n t ∧ qn n := by
  induction h with
  | here h => exact ⟨.here, h⟩
  | arg h1 _ ih => exact ⟨.arg h1 ih.1, ih.2⟩
theorem OccU.of {n : Str} {t : Ty} (hp : Pur t) (h : Occ n t) (hq : qn n) : OccU n t := by
  induction h with
  | here => rw [hp.five rfl]; exact .here hq
  | arg h1 _ ih => exact .arg h1 (ih (hp.sub _ h1))
theorem occU_inv {n : Str} {k : Int} {m : Str} {a : List Ty} : OccU n (.mk k m a) ↔ (unk (.mk k m a) = true ∧ m = n) ∨ ∃ t, t ∈ a ∧ OccU n t := by
  constructor
  · intro h
    generalize ht : Ty.mk k m a = t at h
    cases h with
    | here hq =>
      simp only [var, Ty.mk.injEq] at ht
      obtain ⟨rfl, rfl, rfl⟩ := ht
      exact .inl ⟨unk_iff.2 ⟨_, rfl, hq⟩, rfl⟩
    | arg h1 h2 =>
      simp only [Ty.mk.injEq] at ht
      obtain ⟨rfl, rfl, rfl⟩ := ht
      exact .inr ⟨_, h1, h2⟩
  · rintro (⟨h, rfl⟩ | ⟨t, h1, h2⟩)
    · obtain ⟨n, e, hq⟩ := unk_iff.1 h
      rw [e]
      simp only [var, Ty.mk.injEq] at e
      obtain ⟨rfl, rfl, rfl⟩ := e
      exact .here hq
    · exact .arg h1 h2
def okN (W : List Str) (t : Ty) : Prop := ∀ out : List Str, out.Nodup → (∀ n, n ∈ out → n ∈ W) → (∀ n, OccU n t → n ∈ W) → ∃ r : List Str, V 57 [.pv t.enc, .bld 1 (out.map .str)] = some (.bld 1 (r.map .str), []) ∧ r.Nodup ∧ ∀ n, n ∈ r ↔ n ∈ out ∨ OccU n t
theorem l57 {W : List Str} {args : List Ty} (hl : args.length ≤ maxLen) (hs : ∀ t, t ∈ args → okN W t) : ∀ (l : List Ty) (k : Nat) (out : List Str), args.drop k = l → out.Nodup → (∀ n, n ∈ out → n ∈ W) → (∀ t, t ∈ args → ∀ n, OccU n t → n ∈ W) →
    ∃ r : List Str, L57_11014 (out.map .str) (args.map Ty.enc) k = some (.bld 1 (r.map .str), []) ∧ r.Nodup ∧ ∀ n, n ∈ r ↔ n ∈ out ∨ ∃ t, t ∈ l ∧ OccU n t
  | [], k, out, h, hn, _, _ => ⟨out, by rw [e57_11014, endK_map h]; rfl, hn, by simp⟩
  | x :: l, k, out, h, hn, hW, hO => by
    have A := atK_map (f := Ty.enc) h hl
    have A' := atK h hl
    have hx := mem_drop h
    obtain ⟨o2, v1, v2, v3⟩ := hs x hx out hn hW (hO x hx)
    obtain ⟨r, g1, g2, g3⟩ := l57 hl hs l (k + 1) o2 A'.drop v2 (fun n hn => by rcases (v3 n).1 hn with h | h; exact hW n h; exact hO x hx n h) hO
    refine ⟨r, ?_, g2, fun n => ?_⟩
    · rw [e57_11014]
      simp only [A.lt, A.ge, A.get, A.next, cond_true, Option.bind_some]
      simp only [ty_fits, ty_k, ty_n, ty_a, ty_eta, cond_true, v1, Option.bind_some, retB_bld]
      exact g1
    · rw [g3 n, v3 n]
      simp only [List.mem_cons, exists_eq_or_imp, or_assoc]
theorem v57 {W : List Str} (hWl : W.length ≤ 4 * BIG) {t : Ty} : Okt t → okN W t := by
  refine Ty.ind (Q := fun t => Okt t → okN W t) (fun k nm args ih ht => ?_) t
  intro out hn hW hO
  have hsub : ∀ t, t ∈ args → okN W t := fun t h => ih t h (ht.sub t h)
  have hOa : ∀ t, t ∈ args → ∀ n, OccU n t → n ∈ W := fun t h n ho => hO n (.arg h ho)
  have hol : out.length ≤ W.length := nodup_sub out W hn hW
  have hmx : out.length ≤ maxLen := by simp only [BIG] at hWl; simp [maxLen]; omega
  have fin : ∀ o : List Str, o.Nodup → (∀ n, n ∈ o → n ∈ W) → ∃ r : List Str, L57_116 (o.map .str) k nm (args.map Ty.enc) = some (.bld 1 (r.map .str), []) ∧ r.Nodup ∧ ∀ n, n ∈ r ↔ n ∈ o ∨ ∃ t, t ∈ args ∧ OccU n t := fun o h1 h2 => by
    obtain ⟨r, g1, g2, g3⟩ := l57 ht.len hsub args 0 o rfl h1 h2 hOa
    exact ⟨r, by rw [e57_116]; exact g1, g2, g3⟩
  have hv := v81 (.mk k nm args)
  have he : V 57 [.pv (Ty.mk k nm args).enc, .bld 1 (out.map .str)] = bif unk (.mk k nm args) then L57_1016 (out.map .str) (!(has out nm)) k nm (args.map Ty.enc) else L57_1016 (out.map .str) false k nm (args.map Ty.enc) := by
    rw [enc_mk] at hv ⊢
    rw [e57, hv]
    simp only [Option.bind_some, retPV_pv, fits_bool, toBool_bool, cond_true]
    rw [v89 hmx]
    simp only [Option.bind_some, retPV_pv, fits_bool, toBool_bool, cond_true]
  rw [he]
  have add : (unk (.mk k nm args) && !has out nm) = false → (∀ n, (n ∈ out ∨ ∃ t, t ∈ args ∧ OccU n t) ↔ n ∈ out ∨ OccU n (.mk k nm args)) := fun hb n => by
    rw [occU_inv]
    constructor
    · rintro (h | h)
      · exact .inl h
      · exact .inr (.inr h)
    · rintro (h | ⟨h1, rfl⟩ | h)
      · exact .inl h
      · rw [h1] at hb
        simp only [Bool.true_and, Bool.not_eq_false'] at hb
        exact .inl (of_decide_eq_true hb)
      · exact .inr h
  cases hu : unk (.mk k nm args) with
  | false =>
    simp only [cond_false]
    rw [e57_1016]
    simp only [cond_false]
    obtain ⟨r, g1, g2, g3⟩ := fin out hn hW
    exact ⟨r, g1, g2, fun n => (g3 n).trans (add (by rw [hu]; rfl) n)⟩
  | true =>
    simp only [cond_true]
    rw [e57_1016]
    cases hh : has out nm with
    | true =>
      simp only [Bool.not_true, cond_false]
      obtain ⟨r, g1, g2, g3⟩ := fin out hn hW
      exact ⟨r, g1, g2, fun n => (g3 n).trans (add (by rw [hh]; simp) n)⟩
    | false =>
      have hnm : nm ∉ out := of_decide_eq_false hh
      have ho : OccU nm (.mk k nm args) := occU_inv.2 (.inl ⟨hu, rfl⟩)
      have hs : small (out.map PV.str).length 1 16 = true := small_of (by simp only [BIG] at hWl; simp; omega)
      simp only [Bool.not_false, cond_true, hs]
      rw [show out.map PV.str ++ ([.str nm] : List PV) = (out ++ [nm]).map .str by simp]
      obtain ⟨r, g1, g2, g3⟩ := fin (out ++ [nm]) (by
        rw [List.nodup_append]
        exact ⟨hn, by simp, fun a ha b hb e => by simp at hb; subst hb; exact hnm (e ▸ ha)⟩) (fun n h => by
        rcases List.mem_append.1 h with h | h
        · exact hW n h
        · rw [List.mem_singleton.1 h]; exact hO nm ho)
      refine ⟨r, g1, g2, fun n => (g3 n).trans ?_⟩
      rw [occU_inv, List.mem_append, List.mem_singleton]
      constructor
      · rintro ((h | rfl) | h)
        · exact .inl h
        · exact .inr (.inl ⟨hu, rfl⟩)
        · exact .inr (.inr h)
      · rintro (h | ⟨_, rfl⟩ | h)
        · exact .inl (.inl h)
        · exact .inl (.inr rfl)
        · exact .inr h
theorem v24 {W : List Str} (hWl : W.length ≤ 4 * BIG) {t : Ty} (ht : Okt t) (hO : ∀ n, OccU n t → n ∈ W) : ∃ r : List Str, V 24 [.pv t.enc] = some (.bld 1 (r.map .str), []) ∧ r.Nodup ∧ ∀ n, n ∈ r ↔ OccU n t := by
  obtain ⟨r, g1, g2, g3⟩ := v57 hWl ht [] List.nodup_nil (by simp) hO
  refine ⟨r, ?_, g2, fun n => by simpa using g3 n⟩
  have h0 := e24 t.kind t.name (t.args.map Ty.enc)
  rw [ty_eta] at h0
  simp only [List.map_nil] at g1
  rw [h0, g1]
  simp only [Option.bind_some, retB_bld]

/-! #### Sizes -/
def okS (t : Ty) : Prop := ∃ n d : Int, V 117 [.pv t.enc] = some (.pv (.tup [.int .i64 n, .int .i64 d]), [])
theorem r0 (a b : PV) : (PV.tup [a, b]).r 0 = a := nrfl rfl
theorem r1 (a b : PV) : (PV.tup [a, b]).r 1 = b := nrfl rfl
theorem fits_ii (a b : Int) : (Sh.tup [Sh.int .i64, Sh.int .i64]).fits (.tup [.int .i64 a, .int .i64 b]) = true := nrfl rfl
theorem l117 {args : List Ty} (hl : args.length ≤ maxLen) (hs : ∀ t, t ∈ args → okS t) : ∀ (l : List Ty) (k : Nat) (i i1 : Int), args.drop k = l → ∃ n d : Int, L117_11014 i i1 (args.map Ty.enc) k = some (.pv (.tup [.int .i64 n, .int .i64 d]), [])
  | [], k, i, i1, h => ⟨_, _, by rw [e117_11014, endK_map h]; rfl⟩
  | x :: l, k, i, i1, h => by
    have A := atK_map (f := Ty.enc) h hl
    have A' := atK h hl
    obtain ⟨n, d, hv⟩ := hs x (mem_drop h)
    rw [e117_11014]
    simp only [A.lt, A.ge, A.get, A.next, cond_true, Option.bind_some]
    simp only [ty_fits, ty_k, ty_n, ty_a, ty_eta, cond_true, hv, Option.bind_some, retPV_pv, fits_ii, r0, r1, toInt_int]
    exact l117 hl hs l (k + 1) _ _ A'.drop
theorem v117 {t : Ty} : Okt t → okS t := by
  refine Ty.ind (Q := fun t => Okt t → okS t) (fun k nm args ih ht => ?_) t
  obtain ⟨n, d, h⟩ := l117 ht.len (fun t h => ih t h (ht.sub t h)) args 0 1 0 rfl
  exact ⟨n, d, by rw [enc_mk, e117]; exact h⟩
/-- Is a type too large? -/
noncomputable def big (t : Ty) : Bool := match V 117 [.pv t.enc] with | some (.pv (.tup [.int _ n, .int _ d]), []) => decide (n > 400) || decide (d > 40) | _ => false
theorem big_of {t : Ty} {n d : Int} (h : V 117 [.pv t.enc] = some (.pv (.tup [.int .i64 n, .int .i64 d]), [])) : big t = (decide (n > 400) || decide (d > 40)) := by unfold big; rw [h]
end Go.AL.S4.Un
