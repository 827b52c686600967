/- Kinds: types in a program, names put in. -/
import Derived.Test.YtofjejdlggmcjaaS1Ty
set_option linter.unusedVariables false
set_option linter.unusedSimpArgs false
namespace Go.AL.S1
open Go Go.AL

abbrev D3 := Str × List PV × List PV
def eD (x : D3) : PV := .agg [.str x.1, .lst x.2.1, .lst x.2.2]
theorem d_fits (x : D3) : (Sh.agg [Sh.str, Sh.lst, Sh.lst]).fits (eD x) = true := nrfl rfl
theorem d_0 (x : D3) : ((eD x).c 0).toStr = x.1 := nrfl rfl
theorem d_1 (x : D3) : ((eD x).c 1).toLst = x.2.1 := nrfl rfl
theorem d_2 (x : D3) : ((eD x).c 2).toLst = x.2.2 := nrfl rfl
theorem d_eta (x : D3) : PV.agg [.str x.1, .lst x.2.1, .lst x.2.2] = eD x := nrfl rfl
/-- A program. -/
structure Pg where
  nm : Str
  ver : Int
  us : List PV
  ds : List D3
  ts : List PV
  is : List PV
  fs : List PV
  ac : List PV
def Pg.enc (p : Pg) : PV := .agg [.str p.nm, .int .i64 p.ver, .lst p.us, .lst (p.ds.map eD), .lst p.ts, .lst p.is, .lst p.fs, .lst p.ac]
def dat (n : Str) : List D3 → Option D3
  | [] => none
  | d :: l => bif d.1 == n then some d else dat n l
def eDat : Option D3 → PV
  | some d => .tup [eD d, .int .i64 0]
  | none => .tup [.agg [.str [], .lst [], .lst []], .int .i64 11]
theorem l62 {p : Pg} {n : Str} (hl : p.ds.length ≤ maxLen) : ∀ (l : List D3) (k : Nat), p.ds.drop k = l → L62_1014 n (p.ds.map eD) k p.nm p.ver p.us p.ts p.is p.fs p.ac = some (.pv (eDat (dat n l)), [])
  | [], k, h => by
    rw [e62_1014, endK_map h]
    rfl
  | x :: l, k, h => by
    have A := atK_map (f := eD) h hl
    have ih := l62 (n := n) hl l (k + 1) (atK h hl).drop
    rw [e62_1014]
    simp only [A.lt, A.ge, A.get, A.next, cond_true, Option.bind_some]
    simp only [d_fits, d_0, d_1, d_2, d_eta, cond_true, dat]
    cases x.1 == n with
    | true => rfl
    | false => exact ih
theorem v62 {p : Pg} {n : Str} (hl : p.ds.length ≤ maxLen) : V 62 [.pv p.enc, .pv (.str n)] = some (.pv (eDat (dat n p.ds)), []) := by
  unfold Pg.enc
  rw [e62]; exact l62 hl _ 0 rfl
mutual
def typ (ds : List D3) (ps : List Str) : Ty → Int
  | .mk k n a => bif k == 5 then (bif has ps n then typs ds ps a else 11)
    else bif k == 6 then (match dat n ds with
      | none => 11
      | some d => bif (d.2.1.length : Int) != (a.length : Int) then 13 else typs ds ps a)
    else typs ds ps a
def typs (ds : List D3) (ps : List Str) : List Ty → Int
  | [] => 0
  | t :: l => bif typ ds ps t != 0 then typ ds ps t else typs ds ps l
end
theorem l27 {p : Pg} {ps : List Str} {ts : List Ty} (hl : ts.length ≤ maxLen) (hs : ∀ t, t ∈ ts → V 20 [.pv p.enc, .pv (.lst (ps.map .str)), .pv t.enc] = some (.pv (.int .i64 (typ p.ds ps t)), [])) :
    ∀ (l : List Ty) (k : Nat), ts.drop k = l → L27_1014 (ps.map .str) (ts.map Ty.enc) k p.nm p.ver p.us (p.ds.map eD) p.ts p.is p.fs p.ac = some (.pv (.int .i64 (typs p.ds ps l)), [])
  | [], k, h => by
    rw [e27_1014, endK_map h]
    simp [typs]
  | x :: l, k, h => by
    have A := atK_map (f := Ty.enc) h hl
    have A' := atK h hl
    have ih := l27 hl hs l (k + 1) A'.drop
    have hx := hs x (List.mem_of_getElem? A'.get')
    unfold Pg.enc at hx
    rw [e27_1014]
    simp only [A.lt, A.ge, A.get, A.next, cond_true, Option.bind_some]
    simp only [ty_fits, ty_k, ty_n, ty_a, ty_eta, cond_true, hx, Option.bind_some, retPV_pv, fits_i64, toInt_int, typs, ih]
    cases typ p.ds ps x != 0 <;> rfl
theorem v27 {p : Pg} {ps : List Str} {ts : List Ty} (hl : ts.length ≤ maxLen) (hs : ∀ t, t ∈ ts → V 20 [.pv p.enc, .pv (.lst (ps.map .str)), .pv t.enc] = some (.pv (.int .i64 (typ p.ds ps t)), [])) :
    V 27 [.pv p.enc, .pv (.lst (ps.map .str)), .pv (.lst (ts.map Ty.enc))] = some (.pv (.int .i64 (typs p.ds ps ts)), []) := by
  unfold Pg.enc
  rw [e27]; exact l27 hl hs _ 0 rfl
theorem fitsDI (a : PV) (n : Int) : (Sh.tup [Sh.agg [Sh.str, Sh.lst, Sh.lst], Sh.int .i64]).fits (.tup [a, .int .i64 n]) = (Sh.agg [Sh.str, Sh.lst, Sh.lst]).fits a := by
  cases h : (Sh.agg [Sh.str, Sh.lst, Sh.lst]).fits a <;> simp [fits_tup, fitsL_cons, fitsL_nil, fits_i64, h]
theorem v20 {p : Pg} {ps : List Str} (hd : p.ds.length ≤ maxLen) (hp : ps.length ≤ maxLen) {t : Ty} (ht : Okt t) : V 20 [.pv p.enc, .pv (.lst (ps.map .str)), .pv t.enc] = some (.pv (.int .i64 (typ p.ds ps t)), []) := by
  revert ht
  refine Ty.ind (Q := fun t => Okt t → V 20 [.pv p.enc, .pv (.lst (ps.map .str)), .pv t.enc] = some (.pv (.int .i64 (typ p.ds ps t)), [])) (fun k nm args ih ht => ?_) t
  have h27 := v27 (p := p) (ps := ps) ht.len fun t hm => ih t hm (ht.sub t hm)
  have h62 := v62 (p := p) (n := nm) hd
  have hL : L20_116 (ps.map .str) p.nm p.ver p.us (p.ds.map eD) p.ts p.is p.fs p.ac k nm (args.map Ty.enc) = some (.pv (.int .i64 (typs p.ds ps args)), []) := by
    rw [e20_116]
    unfold Pg.enc at h27
    rw [h27]
    rfl
  unfold Pg.enc at h62 ⊢
  rw [enc_mk, e20, v55 hp, h62, hL]
  simp only [Option.bind_some, retPV_pv, fits_bool, cond_true, toBool_bool, typ]
  cases k == 5 with
  | true => cases has ps nm <;> rfl
  | false =>
    simp only [cond_false]
    cases k == 6 with
    | false => rfl
    | true =>
      simp only [cond_true]
      cases dat nm p.ds with
      | none => rfl
      | some d =>
        simp only [eDat, fitsDI, d_fits, r_zero, r_succ, toInt_int, d_1, List.length_map, cond_true]
        rw [show ((0 : Int) != 0) = false from rfl]
        simp only [cond_false]
        cases (d.2.1.length : Int) != (args.length : Int) <;> rfl
theorem v18 : V 18 [] = some (.pv (.bool true), []) := by
  have h1 := v20 (p := ⟨[], 0, [], [([68], [.str [97]], [])], [], [], [], []⟩) (ps := []) (by decide) (by decide) (t := .mk 6 [68] []) (.mk (by decide) (by decide) (by simp))
  have h2 := v20 (p := ⟨[], 0, [], [([68], [.str [97]], [])], [], [], [], []⟩) (ps := []) (by decide) (by decide) (t := .mk 6 [68] [.mk 1 [] []]) (.mk (by decide) (by decide) (fun t ht => by
    rw [List.mem_singleton] at ht
    subst ht
    exact .mk (by decide) (by decide) (by simp)))
  simp only [Pg.enc, enc_mk, List.map_cons, List.map_nil, eD] at h1 h2
  rw [e18, h1, h2]
  rfl

/-! #### Putting in -/
def putAt (names : List Str) (l : List Ty) (n : Str) : Option Ty := bif decide (0 ≤ idx n names 0) then l[(idx n names 0).toNat]? else none
mutual
def put (names : List Str) (l : List Ty) : Ty → Ty
  | .mk k n a => match (bif k == 5 then putAt names l n else none) with
    | some u => u
    | none => .mk k n (puts names l a)
def puts (names : List Str) (l : List Ty) : List Ty → List Ty
  | [] => []
  | t :: m => put names l t :: puts names l m
end
theorem puts_map (names : List Str) (l : List Ty) (a : List Ty) : puts names l a = a.map (put names l) := by
  induction a with
  | nil => simp [puts]
  | cons t m ih => simp [puts, ih]
theorem put_nil (t : Ty) : put [] [] t = t := by
  refine Ty.ind (Q := fun t => put [] [] t = t) (fun k nm args ih => ?_) t
  have h : puts [] [] args = args := by
    rw [puts_map]
    have := List.map_congr_left (f := put [] []) (g := id) (l := args) (fun t h => ih t h)
    simpa using this
  simp only [put, h]
  have : (bif k == 5 then putAt [] [] nm else none) = none := by
    cases k == 5 <;> rfl
  rw [this]
theorem set_mid {α : Type} (A : List α) (x y : α) (B : List α) : (A ++ x :: B).set A.length y = A ++ y :: B := by
  induction A with
  | nil => rfl
  | cons a A ih => simp [ih]
theorem get_mid {α : Type} (A : List α) (x : α) (B : List α) : (A ++ x :: B)[A.length]? = some x := by simp
theorem l28 {names : List Str} {l : List Ty} {k0 : Int} {nm : Str} {args : List Ty} (hl : args.length ≤ maxLen) (hs : ∀ t, t ∈ args → V 28 [.pv t.enc, .pv (.lst (names.map .str)), .pv (.lst (l.map Ty.enc))] = some (.pv (put names l t).enc, [])) :
    ∀ (m d : List Ty), d ++ m = args → L28_111014 (names.map .str) (l.map Ty.enc) (args.map Ty.enc) (d.length : Nat) k0 nm ((d.map (put names l) ++ m).map Ty.enc) = some (.pv (Ty.mk k0 nm (d.map (put names l) ++ puts names l m)).enc, [])
  | [], d, h => by
    have : d.length = args.length := by rw [← h]; simp
    rw [e28_111014, enc_mk]
    simp only [List.length_map]
    rw [decide_eq_false (by omega)]
    simp [puts]
  | x :: m, d, h => by
    have hd : args.drop d.length = x :: m := by rw [← h]; simp
    have A' := atK hd hl
    have A := atK_map (f := Ty.enc) hd hl
    have hx := hs x (by rw [← h]; simp)
    have ih := l28 (k0 := k0) (nm := nm) hl hs m (d ++ [x]) (by rw [← h]; simp)
    have g0 : ((d.map (put names l) ++ x :: m).map Ty.enc) = (d.map (put names l)).map Ty.enc ++ x.enc :: m.map Ty.enc := by simp
    have g1 : ((d.map (put names l) ++ x :: m).map Ty.enc)[((d.length : Nat) : Int).toNat]? = some x.enc := by
      rw [g0, show ((d.length : Nat) : Int).toNat = ((d.map (put names l)).map Ty.enc).length by simp, get_mid]
    have g2 : ((d.map (put names l) ++ x :: m).map Ty.enc).set ((d.length : Nat) : Int).toNat (put names l x).enc = ((d ++ [x]).map (put names l) ++ m).map Ty.enc := by
      rw [g0, show ((d.length : Nat) : Int).toNat = ((d.map (put names l)).map Ty.enc).length by simp, set_mid]
      simp
    have g3 : decide ((d.length : Int) < (((d.map (put names l) ++ x :: m).map Ty.enc).length : Int)) = true := decide_eq_true (by simp; omega)
    rw [e28_111014]
    simp only [A.lt, A.ge, A.next, g1, g3, cond_true, Option.bind_some, Bool.and_true]
    simp only [ty_fits, ty_k, ty_n, ty_a, ty_eta, cond_true, hx, Option.bind_some, retPV_pv, g2, Bool.and_true]
    have e1 : ((d.length + 1 : Nat) : Int) = (((d ++ [x]).length : Nat) : Int) := by simp
    rw [e1, ih]
    simp [puts]
theorem clone_ty {args : List Ty} (hb : args.length * 48 ≤ reachBytes) : V 69 [.pv (.lst (args.map Ty.enc))] = some (.vec 3 (args.map Ty.enc), []) := by
  rw [e69]
  unfold cloneOutV
  have h1 : headOk 3 (args.map Ty.enc) = true := by
    cases args with
    | nil => rfl
    | cons t l => cases t; simp [enc_mk, headOk, PV.cells]
  have h2 : small 0 (args.map Ty.enc).length 48 = true := small_of (by unfold reachBytes at hb; simp; omega)
  rw [h1, h2]
  rfl
theorem v28_of {names : List Str} {l : List Ty} (hn : names.length ≤ maxLen) (hc : ∀ u, u ∈ l → V 68 [.pv u.enc] = some (.pv u.enc, [])) {t : Ty} (ht : Okt t) :
    V 28 [.pv t.enc, .pv (.lst (names.map .str)), .pv (.lst (l.map Ty.enc))] = some (.pv (put names l t).enc, []) := by
  revert ht
  refine Ty.ind (Q := fun t => Okt t → V 28 [.pv t.enc, .pv (.lst (names.map .str)), .pv (.lst (l.map Ty.enc))] = some (.pv (put names l t).enc, [])) (fun k nm args ih ht => ?_) t
  have hL := l28 (names := names) (l := l) (k0 := k) (nm := nm) ht.len (fun t hm => ih t hm (ht.sub t hm)) args [] rfl
  have hcl := clone_ty ht.bytes
  simp only [List.length_nil, Int.natCast_zero, List.map_nil, List.nil_append] at hL
  have hF : ∀ v : Int, L28_1012116 (names.map .str) (l.map Ty.enc) v false k nm (args.map Ty.enc) = some (.pv (Ty.mk k nm (puts names l args)).enc, []) := by
    intro v
    rw [e28_1012116, hcl]
    simp only [cond_false, Option.bind_some, retV_vec]
    exact hL
  rw [enc_mk, e28, v67 hn, hcl]
  simp only [Option.bind_some, retPV_pv, fits_i64, cond_true, toInt_int, retV_vec, put]
  cases h5 : k == 5 with
  | false => simp only [cond_false]; exact hL
  | true =>
    simp only [cond_true, putAt]
    by_cases h0 : (0 : Int) ≤ idx nm names 0
    · rw [show decide (idx nm names 0 ≥ 0) = true from decide_eq_true h0]
      simp only [cond_true]
      by_cases h1 : idx nm names 0 < (l.length : Int)
      · rw [show decide (idx nm names 0 < ((l.map Ty.enc).length : Int)) = true from decide_eq_true (by simpa using h1)]
        have hlt : (idx nm names 0).toNat < l.length := by omega
        have hg : l[(idx nm names 0).toNat]? = some l[(idx nm names 0).toNat] := List.getElem?_eq_getElem hlt
        rw [e28_1012116, hg]
        have := hc _ (List.getElem_mem hlt)
        simp only [cond_true, decide_eq_true h0, List.getElem?_map, hg, Option.map_some, Option.bind_some, ty_fits, ty_k, ty_n, ty_a, ty_eta, this, retPV_pv]
      · rw [show decide (idx nm names 0 < ((l.map Ty.enc).length : Int)) = false from decide_eq_false (by simpa using h1)]
        have hg : l[(idx nm names 0).toNat]? = none := List.getElem?_eq_none (by omega)
        rw [hg]
        exact hF _
    · rw [show decide (idx nm names 0 ≥ 0) = false from decide_eq_false h0]
      exact hF _
theorem v68 {t : Ty} (ht : Okt t) : V 68 [.pv t.enc] = some (.pv t.enc, []) := by
  have h := v28_of (names := []) (l := []) (by decide) (by simp) ht
  rw [put_nil] at h
  obtain ⟨k, nm, args⟩ := t
  simp only [List.map_nil, enc_mk] at h ⊢
  rw [e68, h]
  rfl
theorem v28 {names : List Str} {l : List Ty} (hn : names.length ≤ maxLen) (hl : ∀ u, u ∈ l → Okt u) {t : Ty} (ht : Okt t) :
    V 28 [.pv t.enc, .pv (.lst (names.map .str)), .pv (.lst (l.map Ty.enc))] = some (.pv (put names l t).enc, []) :=
  v28_of hn (fun u hu => v68 (hl u hu)) ht
theorem okt_put {names : List Str} {l : List Ty} (hl : ∀ u, u ∈ l → Okt u) {t : Ty} (ht : Okt t) : Okt (put names l t) := by
  revert ht
  refine Ty.ind (Q := fun t => Okt t → Okt (put names l t)) (fun k nm args ih ht => ?_) t
  simp only [put]
  cases h : (bif k == 5 then putAt names l nm else none) with
  | some u =>
    refine hl u ?_
    cases h5 : k == 5 with
    | false => rw [h5] at h; cases h
    | true =>
      rw [h5] at h
      simp only [cond_true, putAt] at h
      cases h0 : decide (0 ≤ idx nm names 0) with
      | false => rw [h0] at h; cases h
      | true => rw [h0] at h; exact List.mem_of_getElem? h
  | none =>
    refine .mk ?_ ?_ ?_
    · rw [puts_map]; simpa using ht.len
    · rw [puts_map]; simpa using ht.bytes
    · rw [puts_map]
      intro t hm
      obtain ⟨u, hu, rfl⟩ := List.mem_map.1 hm
      exact ih u hu (ht.sub u hu)

/-! #### The law -/
theorem typs_zero {ds : List D3} {ps : List Str} : ∀ {l : List Ty}, typs ds ps l = 0 ↔ ∀ t, t ∈ l → typ ds ps t = 0
  | [] => by simp [typs]
  | t :: l => by
    have ih := typs_zero (ds := ds) (ps := ps) (l := l)
    simp only [typs, List.mem_cons, forall_eq_or_imp]
    by_cases h : typ ds ps t = 0
    · rw [h]; simpa using ih
    · rw [show (typ ds ps t != 0) = true from by simpa using h]
      simp [h]
theorem put_good {ds : List D3} {ps : List Str} {l : List Ty} (hlen : ps.length ≤ l.length) (hl : typs ds [] l = 0) {t : Ty} : typ ds ps t = 0 → typ ds [] (put ps l t) = 0 := by
  refine Ty.ind (Q := fun t => typ ds ps t = 0 → typ ds [] (put ps l t) = 0) (fun k nm args ih h => ?_) t
  have hsub : typs ds ps args = 0 → typs ds [] (puts ps l args) = 0 := by
    intro h
    rw [typs_zero] at h
    rw [typs_zero, puts_map]
    intro t hm
    obtain ⟨u, hu, rfl⟩ := List.mem_map.1 hm
    exact ih u hu (h u hu)
  simp only [typ] at h
  simp only [put]
  cases h5 : k == 5 with
  | true =>
    rw [h5] at h
    simp only [cond_true] at h ⊢
    cases hh : has ps nm with
    | false => rw [hh] at h; simp at h
    | true =>
      have hm : nm ∈ ps := of_decide_eq_true hh
      obtain ⟨j, hj, hg⟩ : ∃ j : Nat, idx nm ps 0 = (j : Int) ∧ ps[j]? = some nm := by
        rcases idx_spec nm ps 0 with ⟨_, h2⟩ | ⟨j, h1, h2⟩
        · exact absurd hm h2
        · exact ⟨j, by simpa using h1, h2⟩
      have hjl : j < ps.length := by
        rcases Nat.lt_or_ge j ps.length with h | h
        · exact h
        · rw [List.getElem?_eq_none h] at hg; cases hg
      have hjl' : j < l.length := by omega
      unfold putAt
      rw [hj, decide_eq_true (by omega)]
      simp only [cond_true, Int.toNat_natCast, List.getElem?_eq_getElem hjl']
      exact typs_zero.1 hl _ (List.getElem_mem hjl')
  | false =>
    rw [h5] at h
    simp only [cond_false] at h ⊢
    simp only [typ, h5, cond_false]
    cases h6 : k == 6 with
    | false => rw [h6] at h; exact hsub h
    | true =>
      rw [h6] at h
      simp only [cond_true] at h ⊢
      cases hd : dat nm ds with
      | none => rw [hd] at h; simp at h
      | some d =>
        rw [hd] at h
        simp only at h ⊢
        rw [puts_map, List.length_map]
        cases hb : (d.2.1.length : Int) != (args.length : Int) with
        | true => rw [hb] at h; simp at h
        | false =>
          rw [hb] at h
          simp only [cond_false] at h ⊢
          rw [← puts_map]
          exact hsub h
theorem put_shut {ds : List D3} {ps : List Str} {l : List Ty} {t : Ty} : typ ds [] t = 0 → put ps l t = t := by
  refine Ty.ind (Q := fun t => typ ds [] t = 0 → put ps l t = t) (fun k nm args ih h => ?_) t
  have hsub : typs ds [] args = 0 → puts ps l args = args := by
    intro h
    rw [typs_zero] at h
    rw [puts_map]
    have := List.map_congr_left (f := put ps l) (g := id) (l := args) (fun t hm => ih t hm (h t hm))
    simpa using this
  simp only [typ] at h
  simp only [put]
  cases h5 : k == 5 with
  | true =>
    rw [h5] at h
    exact absurd h (by simp [has])
  | false =>
    rw [h5] at h
    simp only [cond_false] at h ⊢
    rw [hsub]
    cases h6 : k == 6 with
    | false => rw [h6] at h; exact h
    | true =>
      rw [h6] at h
      simp only [cond_true] at h
      cases hd : dat nm ds with
      | none => rw [hd] at h; simp at h
      | some d =>
        rw [hd] at h
        simp only at h
        cases hb : (d.2.1.length : Int) != (args.length : Int) with
        | true => rw [hb] at h; simp at h
        | false => rw [hb] at h; exact h
theorem law6 {p : Pg} {ps : List Str} {t : Ty} {l : List Ty} (hd : p.ds.length ≤ maxLen) (hp : ps.length ≤ maxLen) (ht : Okt t) (hl : l.length ≤ maxLen) (hls : ∀ u, u ∈ l → Okt u) :
    V 6 [.pv p.enc, .pv (.lst (ps.map .str)), .pv t.enc, .pv (.lst (l.map Ty.enc))] = some (.pv (.bool true), []) := by
  have hk : ∃ h : Nat, h ≤ l.length ∧ h ≤ ps.length ∧ (bif decide (((ps.map PV.str).length : Int) < ((l.map Ty.enc).length : Int)) then ((ps.map PV.str).length : Int) else ((l.map Ty.enc).length : Int)) = (h : Int) ∧ (h < ps.length ∨ h = ps.length) := by
    simp only [List.length_map]
    by_cases h : (ps.length : Int) < (l.length : Int)
    · exact ⟨ps.length, by omega, by omega, by rw [decide_eq_true h]; rfl, by omega⟩
    · exact ⟨l.length, by omega, by omega, by rw [decide_eq_false h]; rfl, by omega⟩
  obtain ⟨h, h1, h2, h3, h4⟩ := hk
  have htk : ((l.map Ty.enc).take h) = (l.take h).map Ty.enc := by simp
  have hls' : ∀ u, u ∈ l.take h → Okt u := fun u hu => hls u (List.mem_of_mem_take hu)
  have hll : (l.take h).length = h := by simp; omega
  have hok := okt_put (names := ps) hls' ht
  have k20 := v20 (p := p) hd hp ht
  have k27 := v27 (p := p) (ps := []) (ts := l.take h) (by omega) fun u hu => v20 (p := p) hd (by decide) (hls' u hu)
  have k28 := v28 (names := ps) hp hls' ht
  have k20' := v20 (p := p) (ps := []) hd (by decide) hok
  have k28' := v28 (names := ps) hp hls' hok
  have k29 := v29 (okt_put (names := ps) hls' hok) (put ps (l.take h) t)
  have hhd : headOk 3 (l.map Ty.enc) = true := by
    cases l with
    | nil => rfl
    | cons t l => cases t; simp [enc_mk, headOk, PV.cells]
  unfold Pg.enc at k20 k27 k20' ⊢
  have e := e6 p.nm p.ver p.us (p.ds.map eD) p.ts p.is p.fs p.ac (ps.map .str) t.kind t.name (t.args.map Ty.enc) (l.map Ty.enc)
  rw [h3] at e
  simp only [Int.toNat_natCast, htk, ty_eta, v18, Option.bind_some, retPV_pv, fits_bool, toBool_bool, cond_true, Bool.not_true, cond_false, hhd, List.map_nil, k20] at e
  rw [e]
  have g1 : (decide (0 ≤ (h : Int)) && decide ((h : Int) ≤ ((l.map Ty.enc).length : Int))) = true := by
    rw [decide_eq_true (by omega), decide_eq_true (by simp; omega)]; rfl
  rw [g1]
  simp only [cond_true, List.length_map, hll]
  rcases h4 with h4 | h4
  · rw [decide_eq_true (by omega)]; rfl
  · rw [decide_eq_false (by omega)]
    simp only [cond_false, fits_i64, cond_true, toInt_int]
    cases b1 : typ p.ds ps t != 0 with
    | true => rfl
    | false =>
      simp only [cond_false, List.map_nil] at k27 ⊢
      rw [k27]
      simp only [Option.bind_some, retPV_pv, fits_i64, cond_true, toInt_int]
      cases b2 : typs p.ds [] (l.take h) != 0 with
      | true => rfl
      | false =>
        have z1 : typ p.ds ps t = 0 := by simpa using b1
        have z2 : typs p.ds [] (l.take h) = 0 := by simpa using b2
        have z3 := put_good (ps := ps) (by omega) z2 z1
        have z4 := put_shut (ps := ps) (l := l.take h) z3
        rw [z4] at k28' k29
        simp only [cond_false, k28, Option.bind_some, retPV_pv, ty_fits, ty_k, ty_n, ty_a, ty_eta, cond_true]
        simp only [List.map_nil] at k20'
        simp only [k20', z3, Option.bind_some, retPV_pv, fits_i64, cond_true, toInt_int, beq_self_eq_true, k28', ty_fits, ty_k, ty_n, ty_a, ty_eta, k29, same_refl, fits_bool, toBool_bool]
end Go.AL.S1
