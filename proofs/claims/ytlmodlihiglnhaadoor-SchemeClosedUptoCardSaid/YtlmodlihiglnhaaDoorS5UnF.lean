/- Types made alike: which pairs are fair. -/
import Derived.Test.YtlmodlihiglnhaaDoorS5UnA
set_option linter.unusedVariables false
set_option linter.unusedSimpArgs false
namespace Go.AL.S5.Un
open Go Go.AL Go.AL.S5

/-! #### Pure types -/
def okU (t : Ty) : Prop := ∃ b, V 12 [.pv t.enc] = some (.pv (.bool b), []) ∧ (b = true → Pur t)
theorem v38 {t : Ty} (h : okU t) : ∃ b, V 38 [.pv t.enc] = some (.pv (.bool (!b)), []) ∧ (b = true → Pur t) := by
  obtain ⟨b, h1, h2⟩ := h
  refine ⟨b, ?_, h2⟩
  have h0 := e38 t.kind t.name (t.args.map Ty.enc)
  rw [ty_eta] at h0
  rw [h0, h1]
  simp only [Option.bind_some, retPV_pv, fits_bool, toBool_bool, cond_true]
theorem l78 {args : List Ty} (hl : args.length ≤ maxLen) (hs : ∀ t, t ∈ args → okU t) : ∀ (l : List Ty) (k : Nat), args.drop k = l →
    ∃ n : Int, L78_1014 (args.map Ty.enc) 38 [] k = some (.pv (.int .i64 n), []) ∧ (decide (n ≥ 0) = false → ∀ t, t ∈ l → Pur t)
  | [], k, h => ⟨-1, by rw [e78_1014, endK_map h]; rfl, fun _ t ht => by cases ht⟩
  | x :: l, k, h => by
    have A := atK_map (f := Ty.enc) h hl
    have A' := atK h hl
    obtain ⟨b, g1, g2⟩ := v38 (hs x (mem_drop h))
    obtain ⟨n, k1, k2⟩ := l78 hl hs l (k + 1) A'.drop
    rw [e78_1014]
    simp only [A.lt, A.ge, A.get, A.next, cond_true, Option.bind_some]
    simp only [ty_fits, ty_k, ty_n, ty_a, ty_eta, cond_true, List.append_nil, List.map_cons, List.map_nil, g1, Option.bind_some, retPV_pv, fits_bool, toBool_bool]
    cases b with
    | false => exact ⟨k, rfl, fun h => by simp at h⟩
    | true => exact ⟨n, k1, fun h t ht => by
        rcases List.mem_cons.1 ht with rfl | ht
        · exact g2 rfl
        · exact k2 h t ht⟩
theorem v37 {args : List Ty} (hl : args.length ≤ maxLen) (hs : ∀ t, t ∈ args → okU t) : ∃ b, V 37 [.pv (.lst (args.map Ty.enc)), .pv (.fn 38 [])] = some (.pv (.bool b), []) ∧ (b = false → ∀ t, t ∈ args → Pur t) := by
  obtain ⟨n, h1, h2⟩ := l78 hl hs args 0 rfl
  refine ⟨decide (n ≥ 0), ?_, h2⟩
  have h1' : L78_1014 (args.map Ty.enc) 38 [] 0 = some (.pv (.int .i64 n), []) := h1
  rw [e37, e78, h1']
  simp only [Option.bind_some, retPV_pv, fits_i64, cond_true, toInt_int]
theorem v12 {t : Ty} : Okt t → okU t := by
  refine Ty.ind (Q := fun t => Okt t → okU t) (fun k nm args ih ht => ?_) t
  obtain ⟨b, h1, h2⟩ := v37 ht.len fun t h => ih t h (ht.sub t h)
  unfold okU
  rw [enc_mk, e12, h1]
  simp only [Option.bind_some, retPV_pv, fits_bool, toBool_bool, cond_true]
  by_cases hk : k = 5
  · rw [show (k != (5 : Int)) = false from by simpa using hk]
    cases args with
    | nil => exact ⟨!b, rfl, fun _ => .mk (fun _ => rfl) (by simp)⟩
    | cons x args =>
      rw [show ((((x :: args).map Ty.enc).length : Int) == 0) = false from beq_eq_false_iff_ne.2 (by simp; omega)]
      exact ⟨false, rfl, fun h => by cases h⟩
  · rw [show (k != (5 : Int)) = true from by simpa using hk]
    refine ⟨!b, rfl, fun h => .mk (fun e => absurd e hk) (h2 (by simpa using h))⟩

/-! #### All names -/
mutual
def nms : Ty → List Str
  | .mk _ n a => n :: nmss a
def nmss : List Ty → List Str
  | [] => []
  | t :: l => nms t ++ nmss l
end
theorem nmss_mem {n : Str} : ∀ {l : List Ty} {t : Ty}, t ∈ l → n ∈ nms t → n ∈ nmss l
  | x :: l, t, ht, hn => by
    simp only [nmss, List.mem_append]
    rcases List.mem_cons.1 ht with rfl | ht
    · exact .inl hn
    · exact .inr (nmss_mem ht hn)
theorem nms_occ {n : Str} {t : Ty} (h : Occ n t) : n ∈ nms t := by
  induction h with
  | here => simp [nms]
  | arg h1 _ ih => simp only [nms, List.mem_cons]; exact .inr (nmss_mem h1 ih)
theorem nms_len (t : Ty) : (nms t).length = sz t := by
  refine Ty.ind (Q := fun t => (nms t).length = sz t) (fun k n a ih => ?_) t
  have : ∀ l : List Ty, (∀ t, t ∈ l → (nms t).length = sz t) → (nmss l).length = szs l := by
    intro l
    induction l with
    | nil => intro _; rfl
    | cons x l ih => intro h; simp only [nmss, szs, List.length_append, h x (by simp), ih fun t ht => h t (by simp [ht])]
  simp only [nms, sz_mk, List.length_cons, this a ih]
theorem nmss_len : ∀ l : List Ty, (nmss l).length = szs l
  | [] => rfl
  | x :: l => by simp only [nmss, szs, List.length_append, nms_len, nmss_len l]
theorem szs_append (a b : List Ty) : szs (a ++ b) = szs a + szs b := by
  induction a with
  | nil => simp [szs]
  | cons x a ih => simp only [List.cons_append, szs, ih]; omega
theorem szs_len : ∀ l : List Ty, l.length ≤ szs l
  | [] => by simp
  | t :: l => by
    have := szs_len l
    cases t
    simp only [szs, sz_mk, List.length_cons]; omega
end Go.AL.S5.Un
