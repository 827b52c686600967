/- Types made alike: all pairs, and the order of the answer. -/
import Derived.Test.YtlmodlihiglnhaaS4UnQ
import Derived.Test.YtlmodlihiglnhaaS4SortA
import Derived.Test.YtlmodlihiglnhaaAL4
set_option linter.unusedVariables false
set_option linter.unusedSimpArgs false
namespace Go.AL.S4.Un
open Go Go.AL Go.AL.S4

abbrev Pq := Ty × Ty
def eQ (p : Pq) : PV := .agg [.int .i64 p.1.kind, .str p.1.name, .lst (p.1.args.map Ty.enc), .int .i64 p.2.kind, .str p.2.name, .lst (p.2.args.map Ty.enc)]
theorem eQ_fits (p : Pq) : (Sh.agg [Sh.int .i64, Sh.str, Sh.lst, Sh.int .i64, Sh.str, Sh.lst]).fits (eQ p) = true := nrfl rfl
theorem eQ_0 (p : Pq) : ((eQ p).c 0).toInt = p.1.kind := nrfl rfl
theorem eQ_1 (p : Pq) : ((eQ p).c 1).toStr = p.1.name := nrfl rfl
theorem eQ_2 (p : Pq) : ((eQ p).c 2).toLst = p.1.args.map Ty.enc := nrfl rfl
theorem eQ_3 (p : Pq) : ((eQ p).c 3).toInt = p.2.kind := nrfl rfl
theorem eQ_4 (p : Pq) : ((eQ p).c 4).toStr = p.2.name := nrfl rfl
theorem eQ_5 (p : Pq) : ((eQ p).c 5).toLst = p.2.args.map Ty.enc := nrfl rfl
def encT : Res → PV
  | .ok l => .tup [.lst (l.map eB), .int .i64 0]
  | .bad => .tup [.lst [], .int .i64 12]
  | .loop => .tup [.lst [], .int .i64 18]
  | .large => .tup [.lst [], .int .i64 2]
theorem encT_fits (r : Res) : (Sh.tup [Sh.lst, Sh.int .i64]).fits (encT r) = true := by cases r <;> rfl

/-! #### The order -/
theorem bname_eB (b : Bd) : bname (eB b) = b.1 := nrfl rfl
theorem allBind (l : List Bd) : (l.map eB).all isBind = true := by rw [List.all_map]; exact List.all_eq_true.2 fun x _ => rfl
theorem distinct_of : ∀ {l : List Bd}, (l.map (·.1)).Nodup → distinctB (l.map eB) = true
  | [], _ => rfl
  | b :: l, h => by
    obtain ⟨h1, h2⟩ := List.nodup_cons.1 h
    simp only [List.map_cons, distinctB, distinct_of h2, Bool.and_true]
    rw [List.all_map]
    refine List.all_eq_true.2 fun x hx => ?_
    have : b.1 ≠ x.1 := fun e => h1 (List.mem_map.2 ⟨x, hx, e.symm⟩)
    simpa [bname_eB] using this
theorem v52 {l : List Bd} (hn : (l.map (·.1)).Nodup) (hl : l.length ≤ 4 * BIG) : V 52 [.vec 4 (l.map eB), .pv (.fn 53 [])] = some (.pv (.tup []), [.vec (sortB (l.map eB))]) := by
  rw [e52]
  show (bif Nat.beq 4 4 && (Nat.beq 53 53 && (([] : List PV).isEmpty && ((l.map eB).all isBind && (distinctB (l.map eB) && decide ((l.map eB).length < 4611686018427387904))))) then some (Arg.pv (PV.tup []), [Ref.vec (sortB (l.map eB))]) else none) = _
  rw [allBind, distinct_of hn, decide_eq_true (by simp only [BIG] at hl; simp; omega)]
  rfl
/-- The same bonds, in another order. -/
theorem sorted_of {W : List Str} {l : List Bd} (hi : Inv W l) : ∃ l2 : List Bd, sortB (l.map eB) = l2.map eB ∧ Inv W l2 ∧ (∀ b, b ∈ l2 ↔ b ∈ l) ∧ l2.length = l.length := by
  have hp := sortB_perm (l.map eB)
  obtain ⟨l2, e1, e2⟩ := list_of (l := sortB (l.map eB)) (f := eB) (Q := fun b => b ∈ l) fun x hx => by
    obtain ⟨b, hb, rfl⟩ := List.mem_map.1 (hp.mem_iff.1 hx)
    exact ⟨b, rfl, hb⟩
  have hn : (l2.map (·.1)).Perm (l.map (·.1)) := by
    have := hp.map bname
    rw [e1, List.map_map, List.map_map] at this
    exact this
  have hnd : (l2.map (·.1)).Nodup := hn.nodup_iff.2 hi.nd
  have hm : ∀ b, b ∈ l2 ↔ b ∈ l := fun b => ⟨e2 b, fun hb => by
    have : eB b ∈ l2.map eB := by rw [← e1]; exact hp.mem_iff.2 (List.mem_map.2 ⟨b, hb, rfl⟩)
    obtain ⟨c, hc, hce⟩ := List.mem_map.1 this
    have h1 : c.1 = b.1 := by have := congrArg bname hce; exact this
    have k1 := lk_of hi.nd (e2 c hc)
    have k2 := lk_of hi.nd hb
    rw [h1, k2] at k1
    have : b = c := Prod.ext h1.symm (Option.some.inj k1)
    rw [this]; exact hc⟩
  refine ⟨l2, e1, ⟨hnd, fun b hb => hi.q b (e2 b hb), fun b hb => hi.pur b (e2 b hb), fun b c hb hc => hi.idem b c (e2 b hb) (e2 c hc), fun b hb => hi.occ b (e2 b hb)⟩, hm, by simpa using hn.length_eq⟩

/-! #### All pairs -/
def Eqs (ps : List Pq) (σ : Str → Option Ty) : Prop := ∀ p, p ∈ ps → ap σ p.1 = ap σ p.2
def OkQ (W : List Str) (p : Pq) : Prop := Inn W p.1 ∧ Inn W p.2 ∧ Okt p.1 ∧ Okt p.2
def Tells (W : List Str) (l : List Bd) (E : (Str → Option Ty) → Prop) : Res → Prop
  | .ok l' => Inv W l' ∧ OkL l' ∧ ∀ σ, Qs σ → (Sol σ l' ↔ Sol σ l ∧ E σ)
  | .large => True
  | _ => ∀ σ, Qs σ → Sol σ l → ¬ E σ
theorem l19 {W : List Str} (hW : W.length ≤ BIG) {ps : List Pq} (hl : ps.length ≤ maxLen) (hp : ∀ p, p ∈ ps → OkQ W p) : ∀ (rest : List Pq) (k : Nat) (l : List Bd) (zs : List PV), ps.drop k = rest → Inv W l → OkL l →
    ∃ r, L19_11014v1 (ps.map eQ) k (4, l.map eB, zs) = some (.pv (encT r), []) ∧ Tells W l (Eqs rest) r
  | [], k, l, zs, h, hi, ho => by
    have hlen := hi.len
    obtain ⟨l2, s1, s2, s3, s4⟩ := sorted_of hi
    refine ⟨.ok l2, ?_, s2, fun b hb => ho b ((s3 b).1 hb), fun σ hq => ?_⟩
    · rw [e19_11014v1, endK_map h]
      simp only [cond_false]
      rw [v52 hi.nd (by simp only [BIG] at hW ⊢; omega), s1]
      rfl
    · exact ⟨fun hS => ⟨fun b hb => hS b ((s3 b).2 hb), fun p hp => by cases hp⟩, fun hS b hb => hS.1 b ((s3 b).1 hb)⟩
  | p :: rest, k, l, zs, h, hi, ho => by
    have A := atK_map (f := eQ) h hl
    have A' := atK h hl
    obtain ⟨h1, h2, h3, h4⟩ := hp p (mem_drop h)
    obtain ⟨n, r1, hr⟩ := pairF_ends (big := big) (gt := gtS) _ _ l p.1 p.2 hi h1 h2 (Nat.le_refl _) (Nat.le_refl _)
    obtain ⟨g1, g2⟩ := v51 hW n l p.1 p.2 r1 hi h1 h2 ho h3 h4 hr
    have hsay := pairF_says n l p.1 p.2 r1 hi h1 h2 hr
    obtain ⟨xs, c, c1, c2⟩ := encR_T r1
    rw [e19_11014v1]
    simp only [A.lt, A.ge, A.get, A.next, cond_true, Option.bind_some, Bool.and_self]
    simp only [eQ_fits, eQ_0, eQ_1, eQ_2, eQ_3, eQ_4, eQ_5, ty_eta, cond_true]
    rw [g1, c1]
    simp only [Option.bind_some, retT_tup4, fits_tup4, val_tup4, cond_true]
    rcases c2 with ⟨l', rfl, rfl, rfl⟩ | ⟨c2, rfl, c3⟩
    · obtain ⟨i1, _, i3⟩ := hsay
      obtain ⟨r, k1, k2⟩ := l19 hW hl hp rest (k + 1) l' [.int .i64 0] A'.drop i1 (g2 l' rfl)
      refine ⟨r, k1, ?_⟩
      have hE : ∀ σ, Eqs (p :: rest) σ ↔ ap σ p.1 = ap σ p.2 ∧ Eqs rest σ := fun σ => by simp [Eqs]
      cases r with
      | ok l2 => exact ⟨k2.1, k2.2.1, fun σ hq => by rw [k2.2.2 σ hq, i3 σ hq, hE, and_assoc]⟩
      | large => trivial
      | bad => exact fun σ hq hS e => k2 σ hq ((i3 σ hq).2 ⟨hS, ((hE σ).1 e).1⟩) ((hE σ).1 e).2
      | loop => exact fun σ hq hS e => k2 σ hq ((i3 σ hq).2 ⟨hS, ((hE σ).1 e).1⟩) ((hE σ).1 e).2
    · rw [show (c != 0) = true from by simpa using c3]
      refine ⟨r1, ?_, ?_⟩
      · cases r1 with
        | ok l' => exact absurd rfl (c2 l')
        | bad => cases c1; rfl
        | loop => cases c1; rfl
        | large => cases c1; rfl
      · cases r1 with
        | ok l' => exact absurd rfl (c2 l')
        | large => trivial
        | bad => exact fun σ hq hS e => hsay σ hq hS (e p (by simp))
        | loop => exact fun σ hq hS e => hsay σ hq hS (e p (by simp))
theorem inv_nil (W : List Str) : Inv W [] := ⟨List.nodup_nil, by simp, by simp, by simp, by simp⟩
theorem v19 {W : List Str} (hW : W.length ≤ BIG) {ps : List Pq} (hl : ps.length ≤ maxLen) (hp : ∀ p, p ∈ ps → OkQ W p) : ∃ r, V 19 [.pv (.lst (ps.map eQ))] = some (.pv (encT r), []) ∧ Tells W [] (Eqs ps) r := by
  obtain ⟨r, h1, h2⟩ := l19 hW hl hp ps 0 [] [] rfl (inv_nil W) (fun b hb => by cases hb)
  refine ⟨r, ?_, h2⟩
  rw [← h1, e19, e19_11014, e19_11014v1]
  cases ps with
  | nil =>
    have h52 := v52 (l := []) List.nodup_nil (by simp)
    simp only [List.map_nil] at h52 ⊢
    rw [e52n, h52]
    rfl
  | cons p ps =>
    have A := atK_map (f := eQ) (xs := p :: ps) (k := 0) rfl hl
    have a1 : decide ((0 : Int) < (((p :: ps).map eQ).length : Int)) = true := A.lt
    rw [a1]
    simp only [A.lt, A.ge, A.next, cond_true]
    rfl
theorem v18 : V 18 [] = some (.pv (.bool true), []) := (V_A pa 18 []).le 40 _ (by kernel_rfl)
end Go.AL.S4.Un
