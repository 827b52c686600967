/- Types put in. -/
import Derived.Test.YtlmodlihiglnhaaDoorS5Ty
set_option linter.unusedVariables false
set_option linter.unusedSimpArgs false
namespace Go.AL.S5
open Go Go.AL
def putAt (names : List Str) (l : List Ty) (n : Str) : Option Ty := bif decide (0 ≤ idx n names 0) then l[(idx n names 0).toNat]? else none
mutual
def put (names : List Str) (l : List Ty) : Ty → Ty
  | .mk k n a => match (bif k == 5 then putAt names l n else none) with
    | some u => u
    | none => .mk k n (puts names l a)
def puts (names : List Str) (l : List Ty) : List Ty → List Ty
  | [] => []
  | t :: m => put names l t :: puts names l m
end
theorem puts_map (names : List Str) (l : List Ty) (a : List Ty) : puts names l a = a.map (put names l) := by
  induction a with
  | nil => simp [puts]
  | cons t m ih => simp [puts, ih]
theorem put_nil (t : Ty) : put [] [] t = t := by
  refine Ty.ind (Q := fun t => put [] [] t = t) (fun k nm args ih => ?_) t
  have h : puts [] [] args = args := by
    rw [puts_map]
    have := List.map_congr_left (f := put [] []) (g := id) (l := args) (fun t h => ih t h)
    simpa using this
  simp only [put, h]
  have : (bif k == 5 then putAt [] [] nm else none) = none := by
    cases k == 5 <;> rfl
  rw [this]
theorem set_mid {α : Type} (A : List α) (x y : α) (B : List α) : (A ++ x :: B).set A.length y = A ++ y :: B := by
  induction A with
  | nil => rfl
  | cons a A ih => simp [ih]
theorem get_mid {α : Type} (A : List α) (x : α) (B : List α) : (A ++ x :: B)[A.length]? = some x := by simp
theorem l35 {names : List Str} {l : List Ty} {k0 : Int} {nm : Str} {args : List Ty} (hl : args.length ≤ maxLen) (hs : ∀ t, t ∈ args → V 35 [.pv t.enc, .pv (.lst (names.map .str)), .pv (.lst (l.map Ty.enc))] = some (.pv (put names l t).enc, [])) :
    ∀ (m d : List Ty), d ++ m = args → L35_111014 (names.map .str) (l.map Ty.enc) (args.map Ty.enc) (d.length : Nat) k0 nm ((d.map (put names l) ++ m).map Ty.enc) = some (.pv (Ty.mk k0 nm (d.map (put names l) ++ puts names l m)).enc, [])
  | [], d, h => by
    have : d.length = args.length := by rw [← h]; simp
    rw [e35_111014, enc_mk]
    simp only [List.length_map]
    rw [decide_eq_false (by omega)]
    simp [puts]
  | x :: m, d, h => by
    have hd : args.drop d.length = x :: m := by rw [← h]; simp
    have A' := atK hd hl
    have A := atK_map (f := Ty.enc) hd hl
    have hx := hs x (by rw [← h]; simp)
    have ih := l35 (k0 := k0) (nm := nm) hl hs m (d ++ [x]) (by rw [← h]; simp)
    have g0 : ((d.map (put names l) ++ x :: m).map Ty.enc) = (d.map (put names l)).map Ty.enc ++ x.enc :: m.map Ty.enc := by simp
    have g1 : ((d.map (put names l) ++ x :: m).map Ty.enc)[((d.length : Nat) : Int).toNat]? = some x.enc := by
      rw [g0, show ((d.length : Nat) : Int).toNat = ((d.map (put names l)).map Ty.enc).length by simp, get_mid]
    have g2 : ((d.map (put names l) ++ x :: m).map Ty.enc).set ((d.length : Nat) : Int).toNat (put names l x).enc = ((d ++ [x]).map (put names l) ++ m).map Ty.enc := by
      rw [g0, show ((d.length : Nat) : Int).toNat = ((d.map (put names l)).map Ty.enc).length by simp, set_mid]
      simp
    have g3 : decide ((d.length : Int) < (((d.map (put names l) ++ x :: m).map Ty.enc).length : Int)) = true := decide_eq_true (by simp; omega)
    rw [e35_111014]
    simp only [A.lt, A.ge, A.next, g1, g3, cond_true, Option.bind_some, Bool.and_true]
    simp only [ty_fits, ty_k, ty_n, ty_a, ty_eta, cond_true, hx, Option.bind_some, retPV_pv, g2, Bool.and_true]
    have e1 : ((d.length + 1 : Nat) : Int) = (((d ++ [x]).length : Nat) : Int) := by simp
    rw [e1, ih]
    simp [puts]
theorem clone_ty {args : List Ty} (hb : args.length * 48 ≤ reachBytes) : V 76 [.pv (.lst (args.map Ty.enc))] = some (.vec 3 (args.map Ty.enc), []) := by
  rw [e76]
  unfold cloneOutV
  have h1 : headOk 3 (args.map Ty.enc) = true := by
    cases args with
    | nil => rfl
    | cons t l => cases t; simp [enc_mk, headOk, PV.cells]
  have h2 : small 0 (args.map Ty.enc).length 48 = true := small_of (by unfold reachBytes at hb; simp; omega)
  rw [h1, h2]
  rfl
theorem v35_of {names : List Str} {l : List Ty} (hn : names.length ≤ maxLen) (hc : ∀ u, u ∈ l → V 39 [.pv u.enc] = some (.pv u.enc, [])) {t : Ty} (ht : Okt t) :
    V 35 [.pv t.enc, .pv (.lst (names.map .str)), .pv (.lst (l.map Ty.enc))] = some (.pv (put names l t).enc, []) := by
  revert ht
  refine Ty.ind (Q := fun t => Okt t → V 35 [.pv t.enc, .pv (.lst (names.map .str)), .pv (.lst (l.map Ty.enc))] = some (.pv (put names l t).enc, [])) (fun k nm args ih ht => ?_) t
  have hL := l35 (names := names) (l := l) (k0 := k) (nm := nm) ht.len (fun t hm => ih t hm (ht.sub t hm)) args [] rfl
  have hcl := clone_ty ht.bytes
  simp only [List.length_nil, Int.natCast_zero, List.map_nil, List.nil_append] at hL
  have hF : ∀ v : Int, L35_1012116 (names.map .str) (l.map Ty.enc) v false k nm (args.map Ty.enc) = some (.pv (Ty.mk k nm (puts names l args)).enc, []) := by
    intro v
    rw [e35_1012116, hcl]
    simp only [cond_false, Option.bind_some, retV_vec]
    exact hL
  rw [enc_mk, e35, v63 hn, hcl]
  simp only [Option.bind_some, retPV_pv, fits_i64, cond_true, toInt_int, retV_vec, put]
  cases h5 : k == 5 with
  | false => simp only [cond_false]; exact hL
  | true =>
    simp only [cond_true, putAt]
    by_cases h0 : (0 : Int) ≤ idx nm names 0
    · rw [show decide (idx nm names 0 ≥ 0) = true from decide_eq_true h0]
      simp only [cond_true]
      by_cases h1 : idx nm names 0 < (l.length : Int)
      · rw [show decide (idx nm names 0 < ((l.map Ty.enc).length : Int)) = true from decide_eq_true (by simpa using h1)]
        have hlt : (idx nm names 0).toNat < l.length := by omega
        have hg : l[(idx nm names 0).toNat]? = some l[(idx nm names 0).toNat] := List.getElem?_eq_getElem hlt
        rw [e35_1012116, hg]
        have := hc _ (List.getElem_mem hlt)
        simp only [cond_true, decide_eq_true h0, List.getElem?_map, hg, Option.map_some, Option.bind_some, ty_fits, ty_k, ty_n, ty_a, ty_eta, this, retPV_pv]
      · rw [show decide (idx nm names 0 < ((l.map Ty.enc).length : Int)) = false from decide_eq_false (by simpa using h1)]
        have hg : l[(idx nm names 0).toNat]? = none := List.getElem?_eq_none (by omega)
        rw [hg]
        exact hF _
    · rw [show decide (idx nm names 0 ≥ 0) = false from decide_eq_false h0]
      exact hF _
theorem v39 {t : Ty} (ht : Okt t) : V 39 [.pv t.enc] = some (.pv t.enc, []) := by
  have h := v35_of (names := []) (l := []) (by decide) (by simp) ht
  rw [put_nil] at h
  obtain ⟨k, nm, args⟩ := t
  simp only [List.map_nil, enc_mk] at h ⊢
  rw [e39, h]
  rfl
theorem v35 {names : List Str} {l : List Ty} (hn : names.length ≤ maxLen) (hl : ∀ u, u ∈ l → Okt u) {t : Ty} (ht : Okt t) :
    V 35 [.pv t.enc, .pv (.lst (names.map .str)), .pv (.lst (l.map Ty.enc))] = some (.pv (put names l t).enc, []) :=
  v35_of hn (fun u hu => v39 (hl u hu)) ht
theorem okt_put {names : List Str} {l : List Ty} (hl : ∀ u, u ∈ l → Okt u) {t : Ty} (ht : Okt t) : Okt (put names l t) := by
  revert ht
  refine Ty.ind (Q := fun t => Okt t → Okt (put names l t)) (fun k nm args ih ht => ?_) t
  simp only [put]
  cases h : (bif k == 5 then putAt names l nm else none) with
  | some u =>
    refine hl u ?_
    cases h5 : k == 5 with
    | false => rw [h5] at h; cases h
    | true =>
      rw [h5] at h
      simp only [cond_true, putAt] at h
      cases h0 : decide (0 ≤ idx nm names 0) with
      | false => rw [h0] at h; cases h
      | true => rw [h0] at h; exact List.mem_of_getElem? h
  | none =>
    refine .mk ?_ ?_ ?_
    · rw [puts_map]; simpa using ht.len
    · rw [puts_map]; simpa using ht.bytes
    · rw [puts_map]
      intro t hm
      obtain ⟨u, hu, rfl⟩ := List.mem_map.1 hm
      exact ih u hu (ht.sub u hu)

/-! #### The law -/
end Go.AL.S5
