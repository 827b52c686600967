/- Schemes: matching a type against what was put in. -/
import Derived.Test.YtlmodlihiglnhaaDoorS5Put
set_option linter.unusedVariables false
set_option linter.unusedSimpArgs false
namespace Go.AL.S5
open Go Go.AL

theorem v9 : V 9 [] = some (.pv (.bool true), []) := (V_A pa 9 []).le 60 _ (by kernel_rfl)
theorem mem_drop' {α : Type} {xs : List α} {k : Nat} {y : α} {l : List α} (h : xs.drop k = y :: l) : y ∈ xs := List.mem_of_mem_drop (by rw [h]; simp)

/-! #### The map of what was found -/
abbrev Fo := List (Str × Ty)
def fM (f : Fo) : List (PV × PV) := f.map fun b => (PV.str b.1, b.2.enc)
def mlk : Fo → Str → Option Ty
  | [], _ => none
  | b :: f, n => if n = b.1 then some b.2 else mlk f n
theorem mlk_mem : ∀ {f : Fo} {n : Str} {u : Ty}, mlk f n = some u → (n, u) ∈ f
  | b :: f, n, u, h => by
    simp only [mlk] at h
    split at h
    · rename_i e
      obtain rfl := Option.some.inj h
      subst e
      simp
    · exact List.mem_cons_of_mem _ (mlk_mem h)
theorem mget_fM (n : Str) : ∀ f : Fo, mget (.one .str) (fM f) (.str n) = some ((mlk f n).map Ty.enc)
  | [] => rfl
  | b :: f => by
    simp only [fM, List.map_cons, mget, keyEq, mlk]
    by_cases h : n = b.1
    · rw [show (n == b.1) = true from by simpa using h, if_pos h]; rfl
    · rw [show (n == b.1) = false from by simpa using h, if_neg h]
      exact mget_fM n f
theorem mset_fM (n : Str) (u : Ty) : ∀ f : Fo, mlk f n = none → mset (.one .str) (fM f) (.str n) u.enc = some (fM (f ++ [(n, u)]))
  | [], _ => rfl
  | b :: f, h => by
    simp only [mlk] at h
    split at h
    · cases h
    · rename_i e
      have ih := mset_fM n u f h
      simp only [fM, List.map_cons, List.cons_append, mset, keyEq] at ih ⊢
      rw [show (n == b.1) = false from by simpa using e]
      simp only [cond_false]
      rw [ih]
theorem refM (m : List (PV × PV)) : refFits [(0, none)] [] [.map m] = true := nrfl rfl
theorem refM2 (m : List (PV × PV)) : refFits [(2, none)] [] [.map m] = true := nrfl rfl
theorem outM (p : Arg) (m : List (PV × PV)) : Out.m (p, [.map m]) 0 = m := nrfl rfl

/-! #### Matching -/
def InvM (names : List Str) (l : List Ty) (f : Fo) : Prop := ∀ b, b ∈ f → putAt names l b.1 = some b.2
def okM (names : List Str) (l : List Ty) (t : Ty) : Prop := ∀ f, InvM names l f → ∃ f', V 36 [.pv (.lst (names.map .str)), .pv t.enc, .pv (put names l t).enc, .map (fM f)] = some (.pv (.bool true), [.map (fM f')]) ∧ InvM names l f'
theorem l36 {names : List Str} {l : List Ty} {args : List Ty} (hl : args.length ≤ maxLen) (hs : ∀ t, t ∈ args → okM names l t) (k1 : Int) (n1 : Str) (k2 : Int) (n2 : Str) : ∀ (rest : List Ty) (k : Nat) (f : Fo), args.drop k = rest → InvM names l f →
    ∃ f', L36_111014 (names.map .str) (args.map Ty.enc) k (fM f) k1 n1 k2 n2 ((args.map (put names l)).map Ty.enc) = some (.pv (.bool true), [.map (fM f')]) ∧ InvM names l f'
  | [], k, f, h, hf => ⟨f, by rw [e36_111014, endK_map h]; rfl, hf⟩
  | x :: rest, k, f, h, hf => by
    have A := atK_map (f := Ty.enc) h hl
    have A' := atK h hl
    have B := atK_map (f := fun t => (put names l t).enc) h hl
    obtain ⟨f1, g1, g2⟩ := hs x (mem_drop' h) f hf
    obtain ⟨f', g3, g4⟩ := l36 hl hs k1 n1 k2 n2 rest (k + 1) f1 A'.drop g2
    refine ⟨f', ?_, g4⟩
    have hB := B.get
    rw [show (args.map fun t => (put names l t).enc) = (args.map (put names l)).map Ty.enc by rw [List.map_map]; rfl] at hB
    rw [e36_111014]
    simp only [A.lt, A.ge, A.get, A.next, hB, cond_true, Option.bind_some]
    simp only [ty_fits, ty_k, ty_n, ty_a, ty_eta, cond_true, g1, Option.bind_some, refM, outM, retPV_pv, fits_bool, toBool_bool, Bool.not_true, cond_false]
    exact g3
theorem has_putAt {names : List Str} {l : List Ty} (hlen : names.length = l.length) {n : Str} (h : has names n = true) : ∃ u, putAt names l n = some u := by
  unfold has at h
  rw [decide_eq_true_iff] at h
  unfold putAt
  rcases idx_spec n names 0 with ⟨h1, h2⟩ | ⟨j, h1, h2⟩
  · exact absurd h h2
  · have hj : j < names.length := by
      have := (List.getElem?_eq_some_iff.1 h2).1
      exact this
    rw [h1, decide_eq_true (by omega)]
    simp only [cond_true]
    have e : (((0 + j : Nat) : Int)).toNat = j := by omega
    rw [e]
    exact ⟨l[j]'(by omega), List.getElem?_eq_getElem _⟩
theorem v36 {names : List Str} {l : List Ty} (hn : names.length ≤ maxLen) (hlen : names.length = l.length) (hls : ∀ u, u ∈ l → Okt u) {t : Ty} : Okt t → okM names l t := by
  refine Ty.ind (Q := fun t => Okt t → okM names l t) (fun k nm args ih ht => ?_) t
  intro f hf
  have hsub : ∀ t, t ∈ args → okM names l t := fun t h => ih t h (ht.sub t h)
  have h0 := e36 (names.map .str) k nm (args.map Ty.enc) (put names l (.mk k nm args)).kind (put names l (.mk k nm args)).name ((put names l (.mk k nm args)).args.map Ty.enc) (fM f)
  rw [ty_eta] at h0
  rw [enc_mk, h0, v25 hn]
  simp only [Option.bind_some, retPV_pv, fits_bool, toBool_bool, cond_true]
  -- a name that is asked for
  have yes : k = 5 → has names nm = true → ∃ f', L36_1016 (names.map .str) true (fM f) k nm (args.map Ty.enc) (put names l (.mk k nm args)).kind (put names l (.mk k nm args)).name ((put names l (.mk k nm args)).args.map Ty.enc) = some (.pv (.bool true), [.map (fM f')]) ∧ InvM names l f' := fun hk hh => by
    obtain ⟨u, hu⟩ := has_putAt hlen hh
    have hput : put names l (.mk k nm args) = u := by
      simp only [put]
      rw [show (k == 5) = true from by simpa using hk, hu]
      rfl
    have hok : Okt u := by rw [← hput]; exact okt_put hls ht
    rw [hput, e36_1016, mget_fM]
    simp only [cond_true, Option.bind_some, ty_eta]
    cases hm : mlk f nm with
    | none =>
      rw [mset_fM nm u f hm]
      refine ⟨f ++ [(nm, u)], rfl, fun b hb => ?_⟩
      rcases List.mem_append.1 hb with hb | hb
      · exact hf b hb
      · rw [List.mem_singleton.1 hb]; exact hu
    | some v =>
      have hv : v = u := by
        have := hf _ (mlk_mem hm)
        simp only at this
        rw [hu] at this
        exact (Option.some.inj this).symm
      subst hv
      simp only [Option.map_some, Option.getD_some, ty_fits, ty_k, ty_n, ty_a, ty_eta, cond_true, Option.isSome_some, Bool.not_true, cond_false]
      rw [v77 hok, same_refl]
      exact ⟨f, rfl, hf⟩
  have no : (k == 5 && has names nm) = false → ∃ f', L36_1016 (names.map .str) false (fM f) k nm (args.map Ty.enc) (put names l (.mk k nm args)).kind (put names l (.mk k nm args)).name ((put names l (.mk k nm args)).args.map Ty.enc) = some (.pv (.bool true), [.map (fM f')]) ∧ InvM names l f' := fun hb => by
    have hput : put names l (.mk k nm args) = .mk k nm (args.map (put names l)) := by
      simp only [put]
      rw [show (bif k == 5 then putAt names l nm else none) = none from by
        cases hk : k == 5 with
        | false => rfl
        | true =>
          rw [hk] at hb
          simp only [Bool.true_and] at hb
          have : nm ∉ names := of_decide_eq_false hb
          simp only [cond_true]
          unfold putAt
          rcases idx_spec nm names 0 with ⟨h1, h2⟩ | ⟨j, h1, h2⟩
          · rw [h1]; rfl
          · exact absurd (List.mem_of_getElem? h2) this]
      rw [puts_map]
    rw [hput, e36_1016]
    simp only [cond_false, Ty.kind, Ty.name, Ty.args]
    rw [show (k != k) = false from by simp, show (nm == nm) = true from by simp, show ((((args.map Ty.enc).length : Nat) : Int) != ((((args.map (put names l)).map Ty.enc).length : Nat) : Int)) = false from by simp]
    simp only [cond_false, Bool.not_true]
    exact l36 ht.len hsub k nm k nm args 0 f rfl hf
  cases hk : k == 5 with
  | false =>
    simp only [cond_false]
    exact no (by rw [hk]; rfl)
  | true =>
    simp only [cond_true]
    cases hh : has names nm with
    | true => exact yes (by simpa using hk) hh
    | false => exact no (by rw [hh]; simp)
theorem v11 {names : List Str} {l : List Ty} (hn : names.length ≤ maxLen) (hlen : names.length = l.length) (hls : ∀ u, u ∈ l → Okt u) {t : Ty} (ht : Okt t) : V 11 [.pv (.agg [.lst (names.map .str), .int .i64 t.kind, .str t.name, .lst (t.args.map Ty.enc)]), .pv (put names l t).enc] = some (.pv (.bool true), []) := by
  have h0 := e11 (names.map .str) t.kind t.name (t.args.map Ty.enc) (put names l t).kind (put names l t).name ((put names l t).args.map Ty.enc)
  rw [ty_eta, ty_eta] at h0
  obtain ⟨f', g, _⟩ := v36 hn hlen hls ht [] (fun b hb => by cases hb)
  rw [h0]
  rw [show V 36 [.pv (.lst (names.map .str)), .pv t.enc, .pv (put names l t).enc, .map []] = _ from g]
  simp only [Option.bind_some, refM2, retPV_pv, fits_bool, toBool_bool, cond_true]
theorem fitsTT (u : Ty) (n : Int) : (Sh.tup [Sh.agg [Sh.int .i64, Sh.str, Sh.lst], Sh.int .i64]).fits (.tup [u.enc, .int .i64 n]) = true := by cases u; rfl
theorem law3 {names : List Str} {l : List Ty} (hn : names.length ≤ maxLen) (hl : l.length ≤ maxLen) (hls : ∀ u, u ∈ l → Okt u) {t : Ty} (ht : Okt t) : V 3 [.pv (.agg [.lst (names.map .str), .int .i64 t.kind, .str t.name, .lst (t.args.map Ty.enc)]), .pv (.lst (l.map Ty.enc))] = some (.pv (.bool true), []) := by
  rw [e3, v9, e10]
  simp only [Option.bind_some, retPV_pv, fits_bool, toBool_bool, cond_true, Bool.not_true, cond_false]
  by_cases hlen : names.length = l.length
  · rw [show ((((l.map Ty.enc).length : Nat) : Int) != (((names.map PV.str).length : Nat) : Int)) = false from by simp [hlen]]
    simp only [cond_false, ty_eta]
    rw [v35 hn hls ht]
    simp only [Option.bind_some, retPV_pv, ty_fits, ty_k, ty_n, ty_a, ty_eta, cond_true]
    rw [fitsTT]
    rw [show ((PV.tup [(put names l t).enc, .int .i64 0]).r 1).toInt = 0 from rfl, show (PV.tup [(put names l t).enc, .int .i64 0]).r 0 = (put names l t).enc from rfl]
    simp only [cond_true, ty_k, ty_n, ty_a, ty_eta]
    rw [show ((0 : Int) != 0) = false from rfl]
    simp only [cond_false]
    rw [v11 hn hlen hls ht]
    rfl
  · rw [show ((((l.map Ty.enc).length : Nat) : Int) != (((names.map PV.str).length : Nat) : Int)) = true from by simp; omega]
    rfl
end Go.AL.S5
