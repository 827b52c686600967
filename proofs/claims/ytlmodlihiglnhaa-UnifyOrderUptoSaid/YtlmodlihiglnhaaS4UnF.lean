/- Types made alike: which pairs are fair. -/
import Derived.Test.YtlmodlihiglnhaaS4UnS
set_option linter.unusedVariables false
set_option linter.unusedSimpArgs false
namespace Go.AL.S4.Un
open Go Go.AL Go.AL.S4

/-! #### Pure types -/
def okU (t : Ty) : Prop := ∃ b, V 49 [.pv t.enc] = some (.pv (.bool b), []) ∧ (b = true → Pur t)
theorem v80 {t : Ty} (h : okU t) : ∃ b, V 80 [.pv t.enc] = some (.pv (.bool (!b)), []) ∧ (b = true → Pur t) := by
  obtain ⟨b, h1, h2⟩ := h
  refine ⟨b, ?_, h2⟩
  have h0 := e80 t.kind t.name (t.args.map Ty.enc)
  rw [ty_eta] at h0
  rw [h0, h1]
  simp only [Option.bind_some, retPV_pv, fits_bool, toBool_bool, cond_true]
theorem l114 {args : List Ty} (hl : args.length ≤ maxLen) (hs : ∀ t, t ∈ args → okU t) : ∀ (l : List Ty) (k : Nat), args.drop k = l →
    ∃ n : Int, L114_1014 (args.map Ty.enc) 80 [] k = some (.pv (.int .i64 n), []) ∧ (decide (n ≥ 0) = false → ∀ t, t ∈ l → Pur t)
  | [], k, h => ⟨-1, by rw [e114_1014, endK_map h]; rfl, fun _ t ht => by cases ht⟩
  | x :: l, k, h => by
    have A := atK_map (f := Ty.enc) h hl
    have A' := atK h hl
    obtain ⟨b, g1, g2⟩ := v80 (hs x (mem_drop h))
    obtain ⟨n, k1, k2⟩ := l114 hl hs l (k + 1) A'.drop
    rw [e114_1014]
    simp only [A.lt, A.ge, A.get, A.next, cond_true, Option.bind_some]
    simp only [ty_fits, ty_k, ty_n, ty_a, ty_eta, cond_true, List.append_nil, List.map_cons, List.map_nil, g1, Option.bind_some, retPV_pv, fits_bool, toBool_bool]
    cases b with
    | false => exact ⟨k, rfl, fun h => by simp at h⟩
    | true => exact ⟨n, k1, fun h t ht => by
        rcases List.mem_cons.1 ht with rfl | ht
        · exact g2 rfl
        · exact k2 h t ht⟩
theorem v79 {args : List Ty} (hl : args.length ≤ maxLen) (hs : ∀ t, t ∈ args → okU t) : ∃ b, V 79 [.pv (.lst (args.map Ty.enc)), .pv (.fn 80 [])] = some (.pv (.bool b), []) ∧ (b = false → ∀ t, t ∈ args → Pur t) := by
  obtain ⟨n, h1, h2⟩ := l114 hl hs args 0 rfl
  refine ⟨decide (n ≥ 0), ?_, h2⟩
  have h1' : L114_1014 (args.map Ty.enc) 80 [] 0 = some (.pv (.int .i64 n), []) := h1
  rw [e79, e114, h1']
  simp only [Option.bind_some, retPV_pv, fits_i64, cond_true, toInt_int]
theorem v49 {t : Ty} : Okt t → okU t := by
  refine Ty.ind (Q := fun t => Okt t → okU t) (fun k nm args ih ht => ?_) t
  obtain ⟨b, h1, h2⟩ := v79 ht.len fun t h => ih t h (ht.sub t h)
  unfold okU
  rw [enc_mk, e49, h1]
  simp only [Option.bind_some, retPV_pv, fits_bool, toBool_bool, cond_true]
  by_cases hk : k = 5
  · rw [show (k != (5 : Int)) = false from by simpa using hk]
    cases args with
    | nil => exact ⟨!b, rfl, fun _ => .mk (fun _ => rfl) (by simp)⟩
    | cons x args =>
      rw [show ((((x :: args).map Ty.enc).length : Int) == 0) = false from beq_eq_false_iff_ne.2 (by simp; omega)]
      exact ⟨false, rfl, fun h => by cases h⟩
  · rw [show (k != (5 : Int)) = true from by simpa using hk]
    refine ⟨!b, rfl, fun h => .mk (fun e => absurd e hk) (h2 (by simpa using h))⟩

/-! #### Spans -/
theorem szs_append (a b : List Ty) : szs (a ++ b) = szs a + szs b := by
  induction a with
  | nil => simp [szs]
  | cons x a ih => simp only [List.cons_append, szs, ih]; omega
theorem szs_len : ∀ l : List Ty, l.length ≤ szs l
  | [] => by simp
  | t :: l => by
    have := szs_len l
    cases t
    simp only [szs, sz_mk, List.length_cons]; omega
theorem head3 (l : List Ty) : headOk 3 (l.map Ty.enc) = true := by
  cases l with
  | nil => rfl
  | cons t l => cases t; rfl
/-- All parts one level down. -/
def kids : List Ty → List Ty
  | [] => []
  | t :: l => t.args ++ kids l
theorem kids_sz : ∀ l : List Ty, szs (kids l) + l.length = szs l
  | [] => rfl
  | t :: l => by
    have := kids_sz l
    obtain ⟨k, n, a⟩ := t
    simp only [kids, szs_append, szs, sz_mk, List.length_cons, Ty.args]; omega
theorem lk50 {l2 : List Ty} (hl2 : szs l2 ≤ 2 * BIG) (i1 i2 : Int) : ∀ (rest : List Ty) (k : Nat) (l : List Ty), l2.drop k = rest → szs l + szs (kids rest) ≤ 2 * BIG →
    L50_11104514111014 i1 i2 (l.map Ty.enc) (l2.map Ty.enc) ((l2.map Ty.enc).length : Int) k = L50_11104 i1 i2 ((l ++ kids rest).map Ty.enc)
  | [], k, l, h, _ => by
    rw [e50_11104514111014, endK_map h]
    simp [kids]
  | x :: rest, k, l, h, hb => by
    have hlen := szs_len l2
    have A := atK_map (f := Ty.enc) h (by simp only [BIG] at hl2; simp [maxLen]; omega)
    have A' := atK h (by simp only [BIG] at hl2; simp [maxLen]; omega)
    simp only [kids, szs_append] at hb
    have h1 := szs_len l
    have h2 := szs_len x.args
    have hs : small ((l.map Ty.enc).length) ((x.args.map Ty.enc).length) 48 = true := small_of (by simp only [BIG] at hb; simp; omega)
    rw [e50_11104514111014]
    simp only [A.lt, A.ge, A.get, A.next, cond_true, Option.bind_some]
    simp only [ty_fits, ty_a, cond_true, head3, hs]
    rw [← List.map_append, lk50 hl2 i1 i2 rest (k + 1) (l ++ x.args) A'.drop (by rw [szs_append]; omega)]
    simp only [kids, List.append_assoc]
theorem v50l : ∀ (n : Nat) (l : List Ty) (i j : Int), szs l ≤ n → szs l ≤ 2 * BIG → ∃ a b : Int, L50_11104 i j (l.map Ty.enc) = some (.pv (.tup [.int .i64 a, .int .i64 b]), [])
  | 0, l, i, j, h, hb => by
    have := szs_len l
    have : l = [] := List.length_eq_zero_iff.1 (by omega)
    subst this
    exact ⟨i, j, by rw [e50_11104]; rfl⟩
  | n + 1, l, i, j, h, hb => by
    cases l with
    | nil => exact ⟨i, j, by rw [e50_11104]; rfl⟩
    | cons x l =>
      rw [e50_11104]
      rw [show decide ((((x :: l).map Ty.enc).length : Int) > 0) = true from decide_eq_true (by simp only [List.length_map, List.length_cons]; omega)]
      simp only [cond_true]
      have hk := kids_sz (x :: l)
      have := lk50 hb (IntKind.i64.wrap (i + (((x :: l).map Ty.enc).length : Int))) (IntKind.i64.wrap (j + 1)) (x :: l) 0 [] rfl (by rw [show szs [] = 0 from rfl]; omega)
      simp only [List.map_nil, List.nil_append] at this
      have e : L50_11104514111014 (IntKind.i64.wrap (i + (((x :: l).map Ty.enc).length : Int))) (IntKind.i64.wrap (j + 1)) [] ((x :: l).map Ty.enc) (((x :: l).map Ty.enc).length : Int) 0 = L50_11104 (IntKind.i64.wrap (i + (((x :: l).map Ty.enc).length : Int))) (IntKind.i64.wrap (j + 1)) ((kids (x :: l)).map Ty.enc) := this
      rw [e]
      simp only [List.length_cons] at hk
      exact v50l n (kids (x :: l)) _ _ (by omega) (by omega)
theorem v50 {t : Ty} (h : sz t ≤ 2 * BIG) : ∃ a b : Int, V 50 [.pv t.enc] = some (.pv (.tup [.int .i64 a, .int .i64 b]), []) := by
  have hs : szs [t] ≤ 2 * BIG := by simpa [szs] using h
  obtain ⟨a, b, e⟩ := v50l _ [t] 0 0 (Nat.le_refl _) hs
  refine ⟨a, b, ?_⟩
  have h0 := e50 t.kind t.name (t.args.map Ty.enc)
  rw [ty_eta] at h0
  rw [h0]
  exact e

/-! #### Fair pairs -/
theorem l17 {ps : List Pq} (hl : ps.length ≤ maxLen) (hp : ∀ p, p ∈ ps → (Okt p.1 ∧ Okt p.2) ∧ sz p.1 ≤ 2 * BIG ∧ sz p.2 ≤ 2 * BIG) : ∀ (rest : List Pq) (k : Nat) (i : Int), ps.drop k = rest →
    ∃ b, L17_11014 i (ps.map eQ) k = some (.pv (.bool b), []) ∧ (b = true → ∀ p, p ∈ rest → Pur p.1 ∧ Pur p.2)
  | [], k, i, h => ⟨_, by rw [e17_11014, endK_map h]; rfl, fun _ p hp => by cases hp⟩
  | p :: rest, k, i, h => by
    have A := atK_map (f := eQ) h hl
    have A' := atK h hl
    obtain ⟨⟨o1, o2⟩, s1, s2⟩ := hp p (mem_drop h)
    obtain ⟨b1, u1, u2⟩ := v49 o1
    obtain ⟨b2, w1, w2⟩ := v49 o2
    obtain ⟨x1, x2, xe⟩ := v50 s1
    obtain ⟨y1, y2, ye⟩ := v50 s2
    rw [e17_11014]
    simp only [A.lt, A.ge, A.get, A.next, cond_true, Option.bind_some]
    simp only [eQ_fits, eQ_0, eQ_1, eQ_2, eQ_3, eQ_4, eQ_5, ty_eta, cond_true]
    rw [u1, w1, xe, ye]
    simp only [Option.bind_some, retPV_pv, fits_bool, toBool_bool, cond_true, fits_ii, r0, r1, toInt_int]
    cases b1 with
    | false => exact ⟨false, rfl, fun h => by cases h⟩
    | true =>
      cases b2 with
      | false => exact ⟨false, rfl, fun h => by cases h⟩
      | true =>
        simp only [Bool.not_true, cond_false]
        obtain ⟨b, g1, g2⟩ := l17 hl hp rest (k + 1) (IntKind.i64.wrap (i + IntKind.i64.wrap (x1 + y1))) A'.drop
        refine ⟨b, g1, fun hb q hq => ?_⟩
        rcases List.mem_cons.1 hq with rfl | hq
        · exact ⟨u2 rfl, w2 rfl⟩
        · exact g2 hb q hq
theorem v17 {ps : List Pq} (hl : ps.length ≤ maxLen) (hp : ∀ p, p ∈ ps → (Okt p.1 ∧ Okt p.2) ∧ sz p.1 ≤ 2 * BIG ∧ sz p.2 ≤ 2 * BIG) : ∃ b, V 17 [.pv (.lst (ps.map eQ))] = some (.pv (.bool b), []) ∧ (b = true → ∀ p, p ∈ ps → Pur p.1 ∧ Pur p.2) := by
  obtain ⟨b, h1, h2⟩ := l17 hl hp ps 0 0 rfl
  exact ⟨b, by rw [e17]; exact h1, h2⟩

/-! #### All names -/
mutual
def nms : Ty → List Str
  | .mk _ n a => n :: nmss a
def nmss : List Ty → List Str
  | [] => []
  | t :: l => nms t ++ nmss l
end
theorem nmss_mem {n : Str} : ∀ {l : List Ty} {t : Ty}, t ∈ l → n ∈ nms t → n ∈ nmss l
  | x :: l, t, ht, hn => by
    simp only [nmss, List.mem_append]
    rcases List.mem_cons.1 ht with rfl | ht
    · exact .inl hn
    · exact .inr (nmss_mem ht hn)
theorem nms_occ {n : Str} {t : Ty} (h : Occ n t) : n ∈ nms t := by
  induction h with
  | here => simp [nms]
  | arg h1 _ ih => simp only [nms, List.mem_cons]; exact .inr (nmss_mem h1 ih)
theorem nms_len (t : Ty) : (nms t).length = sz t := by
  refine Ty.ind (Q := fun t => (nms t).length = sz t) (fun k n a ih => ?_) t
  have : ∀ l : List Ty, (∀ t, t ∈ l → (nms t).length = sz t) → (nmss l).length = szs l := by
    intro l
    induction l with
    | nil => intro _; rfl
    | cons x l ih => intro h; simp only [nmss, szs, List.length_append, h x (by simp), ih fun t ht => h t (by simp [ht])]
  simp only [nms, sz_mk, List.length_cons, this a ih]
theorem nmss_len : ∀ l : List Ty, (nmss l).length = szs l
  | [] => rfl
  | x :: l => by simp only [nmss, szs, List.length_append, nms_len, nmss_len l]
/-- The names of a list of pairs. -/
def both (ps : List Pq) : List Ty := ps.flatMap fun p => [p.1, p.2]
theorem both_mem {ps : List Pq} {p : Pq} (h : p ∈ ps) : p.1 ∈ both ps ∧ p.2 ∈ both ps := ⟨List.mem_flatMap.2 ⟨p, h, by simp⟩, List.mem_flatMap.2 ⟨p, h, by simp⟩⟩
theorem okQ_of {ps : List Pq} {W : List Str} (hW : ∀ n, n ∈ nmss (both ps) → n ∈ W) (ho : ∀ p, p ∈ ps → Okt p.1 ∧ Okt p.2) (hu : ∀ p, p ∈ ps → Pur p.1 ∧ Pur p.2) : ∀ p, p ∈ ps → OkQ W p := fun p hp =>
  ⟨⟨(hu p hp).1, fun n hn _ => hW n (nmss_mem (both_mem hp).1 (nms_occ hn))⟩, ⟨(hu p hp).2, fun n hn _ => hW n (nmss_mem (both_mem hp).2 (nms_occ hn))⟩, (ho p hp).1, (ho p hp).2⟩
end Go.AL.S4.Un
