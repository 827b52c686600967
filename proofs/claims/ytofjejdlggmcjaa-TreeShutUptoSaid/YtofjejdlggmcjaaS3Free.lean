/- Free names: what a name that is shut in does to them. -/
import Derived.Test.YtofjejdlggmcjaaS3Tree2
set_option linter.unusedVariables false
set_option linter.unusedSimpArgs false
namespace Go.AL.S3
open Go Go.AL

abbrev Str := List UInt8
/-! #### Names -/
def idx (s : Str) : List Str → Nat → Int
  | [], _ => -1
  | x :: l, k => bif s == x then k else idx s l (k + 1)
theorem l67 {xs : List Str} {s : Str} (hl : xs.length ≤ maxLen) : ∀ (l : List Str) (k : Nat), xs.drop k = l → L67_1014 (xs.map .str) s k = some (.pv (.int .i64 (idx s l k)), [])
  | [], k, h => by
    rw [e67_1014, endK_map h]
    rfl
  | x :: l, k, h => by
    have A := atK_map (f := PV.str) h hl
    have ih := l67 (s := s) hl l (k + 1) (atK h hl).drop
    rw [e67_1014]
    simp only [A.lt, A.ge, A.get, A.next, cond_true, Option.bind_some]
    simp only [fits_strS, toStr_str, cond_true, idx]
    cases s == x with
    | true => rfl
    | false => exact ih
theorem v67 {xs : List Str} {s : Str} (hl : xs.length ≤ maxLen) : V 67 [.pv (.lst (xs.map .str)), .pv (.str s)] = some (.pv (.int .i64 (idx s xs 0)), []) := by
  rw [e67]; exact l67 hl xs 0 rfl
theorem idx_spec (s : Str) : ∀ (l : List Str) (k : Nat), (idx s l k = -1 ∧ s ∉ l) ∨ ∃ j : Nat, idx s l k = ((k + j : Nat) : Int) ∧ l[j]? = some s
  | [], k => .inl ⟨rfl, by simp⟩
  | x :: l, k => by
    simp only [idx]
    cases hb : s == x with
    | true =>
      right
      have := beq_iff_eq.1 hb
      subst this
      exact ⟨0, by simp, by simp⟩
    | false =>
      have hne : s ≠ x := by simpa using hb
      rcases idx_spec s l (k + 1) with ⟨h1, h2⟩ | ⟨j, h1, h2⟩
      · left; exact ⟨by simpa using h1, by simp [hne, h2]⟩
      · right; exact ⟨j + 1, by simp only [cond_false]; rw [h1]; congr 1; omega, by simpa using h2⟩
def has (xs : List Str) (s : Str) : Bool := decide (s ∈ xs)
theorem v55 {xs : List Str} {s : Str} (hl : xs.length ≤ maxLen) : V 55 [.pv (.lst (xs.map .str)), .pv (.str s)] = some (.pv (.bool (has xs s)), []) := by
  rw [e55, v67 hl]
  simp only [Option.bind_some, retPV_pv, fits_i64, cond_true, toInt_int, has]
  rcases idx_spec s xs 0 with ⟨h1, h2⟩ | ⟨j, h1, h2⟩
  · rw [h1, decide_eq_false h2]; rfl
  · have hm := List.mem_of_getElem? h2
    rw [h1, decide_eq_true hm, decide_eq_true (by omega)]
theorem headOk_str (l : List Str) : headOk 1 (l.map .str) = true := by cases l <;> rfl
def NamesR (o : Option Out) (n : Nat) : Prop := ∃ r : List Str, o.bind retPV = some (.lst (r.map .str)) ∧ r.length ≤ n
theorem namesR_bld (r : List Str) : NamesR (some (.bld 1 (r.map .str), [])) r.length := ⟨r, rfl, Nat.le_refl _⟩
theorem NamesR.mono {o : Option Out} {n m : Nat} (h : NamesR o n) (hm : n ≤ m) : NamesR o m := by obtain ⟨r, h1, h2⟩ := h; exact ⟨r, h1, by omega⟩
theorem l82 {args : List Pa} (hl : args.length ≤ BIG) (hs : ∀ q, q ∈ args → NamesR (V 82 [.pv q.enc]) (bk q.enc)) : ∀ (l : List Pa) (k : Nat) (acc : List Str), args.drop k = l → acc.length + sumP l ≤ BIG → NamesR (L82_101413121014 (acc.map .str) (args.map Pa.enc) k) (acc.length + sumP l)
  | [], k, acc, h, _ => by
    rw [e82_101413121014, endK_map h]
    exact (namesR_bld acc).mono (by omega)
  | x :: l, k, acc, h, hb => by
    have A := atK_map (f := Pa.enc) h (len_max hl)
    have A' := atK h (len_max hl)
    obtain ⟨r, h1, h2⟩ := hs x (mem_drop h)
    rw [sumP_cons] at hb ⊢
    have ih := l82 hl hs l (k + 1) (acc ++ r) A'.drop (by simp; omega)
    have hsm : small (acc.map PV.str).length (r.map PV.str).length 16 = true := small_of (by simp only [BIG] at hb; simp; omega)
    rw [e82_101413121014]
    simp only [A.lt, A.ge, A.get, A.next, cond_true, Option.bind_some]
    simp only [pa_fits, pa_eta, cond_true, h1, Option.bind_some, fits_lstS, toLst_lst, headOk_str, hsm]
    rw [← List.map_append]
    exact ih.mono (by simp; omega)
theorem v82 {p : Pa} (hb : bk p.enc ≤ BIG) : NamesR (V 82 [.pv p.enc]) (bk p.enc - 1) := by
  revert hb
  refine Pa.ind (Q := fun p => bk p.enc ≤ BIG → NamesR (V 82 [.pv p.enc]) (bk p.enc - 1)) (fun p ih hb => ?_) p
  have h1 := bk_pa p
  have h2 := len_sumP p.args
  have hsub : ∀ q, q ∈ p.args → NamesR (V 82 [.pv q.enc]) (bk q.enc) := fun q hq => (ih q hq (by
    have : bk q.enc ≤ sumP p.args := le_sum (List.mem_map.2 ⟨q, hq, rfl⟩)
    omega)).mono (by omega)
  have hL := l82 (args := p.args) (by omega) hsub p.args 0 [] rfl (by simp; omega)
  have e := e82 p.kind p.num p.text (p.args.map Pa.enc)
  rw [← pa_enc p] at e
  rw [e]
  cases p.kind == 2 with
  | true => exact ⟨[p.text], rfl, by simp; omega⟩
  | false =>
    simp only [cond_false]
    cases p.kind == 6 with
    | true => exact hL.mono (by simp; omega)
    | false => exact ⟨[], rfl, by simp⟩
theorem v40 {l : List Str} (h : l.length ≤ 2 * BIG) : V 40 [.pv (.lst (l.map .str))] = some (.vec 1 (l.map .str), []) := by
  rw [e40]
  unfold cloneOutV
  have h2 : small 0 (l.map PV.str).length 16 = true := small_of (by simp only [BIG] at h; simp; omega)
  rw [headOk_str, h2]
  rfl

/-! #### How many arguments there must be -/
def IntR (o : Option Out) : Prop := ∃ n : Int, o = some (.pv (.int .i64 n), [])
theorem IntR.one (n : Int) : IntR (some (.pv (.int .i64 n), [])) := ⟨n, rfl⟩
theorem IntR.bif {c : Bool} {a b : Option Out} (ha : IntR a) (hb : IntR b) : IntR (bif c then a else b) := by cases c <;> assumption
theorem n1 (k : Int) (b : Bool) (n : Int) (t : List UInt8) (ns tys ags ars : List PV) (at_ : Int) : IntR (L108_101413131316 k b n t ns tys ags ars at_) := by
  rw [e108_101413131316]
  repeat (first | exact IntR.one _ | refine IntR.bif ?_ ?_)
theorem n2 (k : Int) (b : Bool) (n : Int) (t : List UInt8) (ns tys ags ars : List PV) (at_ : Int) : IntR (L108_10141316 k b n t ns tys ags ars at_) := by
  rw [e108_10141316]
  repeat (first | exact IntR.one _ | exact n1 _ _ _ _ _ _ _ _ _ | refine IntR.bif ?_ ?_)
theorem n3 (k : Int) (b : Bool) (n : Int) (t : List UInt8) (ns tys ags ars : List PV) (at_ : Int) : IntR (L108_101416 k b n t ns tys ags ars at_) := by
  rw [e108_101416]
  repeat (first | exact IntR.one _ | exact n2 _ _ _ _ _ _ _ _ _ | refine IntR.bif ?_ ?_)
theorem v108 (e : Ex) : IntR (V 108 [.pv e.enc]) := by
  rw [ex_enc, e108]
  repeat (first | exact n3 _ _ _ _ _ _ _ _ _ | refine IntR.bif ?_ ?_)

/-! #### Free names -/
theorem bk_ex' (e : Ex) : e.names.length + (sumE e.args + sumA e.arms) + 2 ≤ bk e.enc := by
  have hn : ∀ l : List Str, l.length ≤ bkL (l.map .str) := by
    intro l
    induction l with
    | nil => simp
    | cons s l ih => simp only [List.map_cons, bkL, bk, List.length_cons]; omega
  have := hn e.names
  unfold sumE sumA
  rw [ex_enc]
  simp only [bk, bkL] at this ⊢
  rw [← bkL_map, ← bkL_map]
  omega
/-- What means something in an argument. -/
def inn (e : Ex) (k : Nat) (w : List Str) : List Str := if e.kind = 10 then w ++ e.names else if e.kind = 6 ∧ k = 1 then w ++ [e.text] else w
theorem mem_app {nm : Str} {w w' : List Str} (h : ∀ s, s ∈ w' ↔ s ∈ w ∨ s = nm) (L : List Str) : ∀ s, s ∈ w' ++ L ↔ s ∈ w ++ L ∨ s = nm := by
  intro s
  rw [List.mem_append, List.mem_append, h s]
  constructor
  · rintro ((q | q) | q)
    · exact .inl (.inl q)
    · exact .inr q
    · exact .inl (.inr q)
  · rintro ((q | q) | q)
    · exact .inl (.inl q)
    · exact .inr q
    · exact .inl (.inr q)
theorem inn_mem {e : Ex} {k : Nat} {nm : Str} {w w' : List Str} (h : ∀ s, s ∈ w' ↔ s ∈ w ∨ s = nm) : ∀ s, s ∈ inn e k w' ↔ s ∈ inn e k w ∨ s = nm := by
  unfold inn
  split
  · exact mem_app h _
  · split
    · exact mem_app h _
    · exact h
theorem inn_len (e : Ex) (k : Nat) (w : List Str) : (inn e k w).length ≤ w.length + e.names.length + 1 := by
  unfold inn
  split
  · rw [List.length_append]; omega
  · split
    · rw [List.length_append]; simp
    · omega

theorem stepB {e x : Ex} {n : Int} {w out o2 : List Str} {k : Nat} {l : List Ex} (h : (e.args.take n.toNat).drop k = x :: l) (hl : e.args.length ≤ BIG) (hw : w.length + e.names.length ≤ 2 * BIG)
    (hV : V 94 [.pv x.enc, .pv (.lst ((inn e k w).map .str)), .bld 1 (out.map .str)] = some (.bld 1 (o2.map .str), [])) :
    L94_111014 (w.map .str) (out.map .str) (e.args.map Ex.enc) n k e.kind e.num e.text (e.names.map .str) e.types (e.arms.map eArm) e.at_ = L94_111014 (w.map .str) (o2.map .str) (e.args.map Ex.enc) n (k + 1 : Nat) e.kind e.num e.text (e.names.map .str) e.types (e.arms.map eArm) e.at_ := by
  have hlen : (e.args.take n.toNat).length ≤ maxLen := len_max (by simp; omega)
  have A := atK_map (f := Ex.enc) h hlen
  have ht : (e.args.map Ex.enc).take n.toNat = (e.args.take n.toNat).map Ex.enc := (List.map_take ..).symm
  have hcl := v40 (l := w) (by omega)
  have hs1 : small (w.map PV.str).length 1 16 = true := small_of (by simp only [BIG] at hw; simp; omega)
  have hs2 : small (w.map PV.str).length (e.names.map PV.str).length 16 = true := small_of (by simp only [BIG] at hw; simp; omega)
  rw [e94_111014 (out := out.map .str)]
  simp only [ht, A.lt, A.ge, A.get, cond_true, Option.bind_some]
  simp only [ex_fits, cond_true]
  cases h6 : e.kind == 6 with
  | true =>
    have e6 : e.kind = 6 := by simpa using h6
    have h10 : (e.kind == 10) = false := by rw [e6]; rfl
    simp only [cond_true]
    rw [e94_1110145110411016]
    by_cases hk : k = 1
    · subst hk
      have hi : inn e 1 w = w ++ [e.text] := by unfold inn; rw [if_neg (by omega), if_pos ⟨e6, rfl⟩]
      rw [hi] at hV
      rw [show (((1 : Nat) : Int) == 1) = true from rfl]
      simp only [cond_true, hcl, Option.bind_some, retB_vec, hs1]
      rw [e94_111014511041116, h10]
      simp only [cond_false, ex_eta]
      rw [show w.map PV.str ++ [.str e.text] = (w ++ [e.text]).map .str by simp, hV]
      simp only [Option.bind_some, retB_bld]
      rfl
    · have hi : inn e k w = w := by unfold inn; rw [if_neg (by omega), if_neg (by omega)]
      rw [hi] at hV
      rw [show ((k : Int) == 1) = false from beq_eq_false_iff_ne.2 (by omega)]
      simp only [cond_false]
      rw [e94_111014511041116, h10]
      simp only [cond_false, ex_eta]
      rw [hV]
      simp only [Option.bind_some, retB_bld, A.next]
  | false =>
    have e6 : e.kind ≠ 6 := by simpa using h6
    simp only [cond_false]
    rw [e94_1110145110411016]
    simp only [cond_false]
    rw [e94_111014511041116]
    cases h10 : e.kind == 10 with
    | true =>
      have e10 : e.kind = 10 := by simpa using h10
      have hi : inn e k w = w ++ e.names := by unfold inn; rw [if_pos e10]
      rw [hi] at hV
      simp only [cond_true, hcl, Option.bind_some, retB_vec, headOk_str, hs2, ex_eta]
      rw [← List.map_append, hV]
      simp only [Option.bind_some, retB_bld, A.next]
    | false =>
      have e10 : e.kind ≠ 10 := by simpa using h10
      have hi : inn e k w = w := by unfold inn; rw [if_neg e10, if_neg (by omega)]
      rw [hi] at hV
      simp only [cond_false, ex_eta]
      rw [hV]
      simp only [Option.bind_some, retB_bld, A.next]

def cut (nm : Str) (l : List Str) : List Str := l.filter fun s => !(s == nm)
theorem cut_append (nm : Str) (a b : List Str) : cut nm (a ++ b) = cut nm a ++ cut nm b := by simp [cut]
theorem cut_len (nm : Str) (l : List Str) : (cut nm l).length ≤ l.length := List.length_filter_le _ _
/-- Two runs: a name more that means something. -/
def okF (e : Ex) : Prop := ∀ (nm : Str) (w w' out : List Str), (∀ s, s ∈ w' ↔ s ∈ w ∨ s = nm) → w.length + bk e.enc ≤ 2 * BIG → w'.length + bk e.enc ≤ 2 * BIG → out.length + bk e.enc ≤ 2 * BIG →
  ∃ r : List Str, V 94 [.pv e.enc, .pv (.lst (w.map .str)), .bld 1 (out.map .str)] = some (.bld 1 (r.map .str), []) ∧
    V 94 [.pv e.enc, .pv (.lst (w'.map .str)), .bld 1 ((cut nm out).map .str)] = some (.bld 1 ((cut nm r).map .str), []) ∧ r.length ≤ out.length + bk e.enc

theorem loopA {args : List Ex} (hl : args.length ≤ BIG) (hs : ∀ a, a ∈ args → okF a) {nm : Str} {w w' : List Str} (hm : ∀ s, s ∈ w' ↔ s ∈ w ∨ s = nm) : ∀ (l : List Ex) (k : Nat) (out : List Str), args.drop k = l →
    w.length + sumE l ≤ 2 * BIG → w'.length + sumE l ≤ 2 * BIG → out.length + sumE l ≤ 2 * BIG →
    ∃ r : List Str, L94_1104131312014 (w.map .str) (out.map .str) (args.map Ex.enc) k = some (.bld 1 (r.map .str), []) ∧ L94_1104131312014 (w'.map .str) ((cut nm out).map .str) (args.map Ex.enc) k = some (.bld 1 ((cut nm r).map .str), []) ∧ r.length ≤ out.length + sumE l
  | [], k, out, h, _, _, _ => ⟨out, by rw [e94_1104131312014, endK_map h]; rfl, by rw [e94_1104131312014, endK_map h]; rfl, by simp [sumE]⟩
  | x :: l, k, out, h, b1, b2, b3 => by
    have A := atK_map (f := Ex.enc) h (len_max hl)
    have A' := atK h (len_max hl)
    rw [sumE_cons] at b1 b2 b3 ⊢
    obtain ⟨o2, v1, v2, v3⟩ := hs x (mem_drop h) nm w w' out hm (by omega) (by omega) (by omega)
    obtain ⟨r, g1, g2, g3⟩ := loopA hl hs hm l (k + 1) o2 A'.drop (by omega) (by omega) (by omega)
    refine ⟨r, ?_, ?_, by omega⟩
    · rw [e94_1104131312014]
      simp only [A.lt, A.ge, A.get, A.next, cond_true, Option.bind_some]
      simp only [ex_fits, ex_eta, cond_true, v1, Option.bind_some, retB_bld]
      exact g1
    · rw [e94_1104131312014]
      simp only [A.lt, A.ge, A.get, A.next, cond_true, Option.bind_some]
      simp only [ex_fits, ex_eta, cond_true, v2, Option.bind_some, retB_bld]
      exact g2

theorem stepC {arms : List (Pa × Ex)} {x : Pa × Ex} {l : List (Pa × Ex)} {w ns out o2 : List Str} {k : Nat} (h : arms.drop k = x :: l) (hl : arms.length ≤ BIG) (hw : w.length + ns.length ≤ 2 * BIG) (hp : (V 82 [.pv x.1.enc]).bind retPV = some (.lst (ns.map .str)))
    (hV : V 94 [.pv x.2.enc, .pv (.lst ((w ++ ns).map .str)), .bld 1 (out.map .str)] = some (.bld 1 (o2.map .str), [])) :
    L94_111101214 (w.map .str) (out.map .str) (arms.map eArm) k = L94_111101214 (w.map .str) (o2.map .str) (arms.map eArm) (k + 1 : Nat) := by
  have A := atK_map (f := eArm) h (len_max hl)
  have hcl := v40 (l := w) (by omega)
  have hs2 : small (w.map PV.str).length (ns.map PV.str).length 16 = true := small_of (by simp only [BIG] at hw; simp; omega)
  rw [e94_111101214 (out := out.map .str)]
  simp only [A.lt, A.ge, A.get, A.next, cond_true, Option.bind_some]
  simp only [arm_fits, arm_ex, arm_pa, cond_true, hcl, hp, Option.bind_some, retB_vec, fits_lstS, toLst_lst, headOk_str, hs2]
  rw [← List.map_append, hV]
  simp only [Option.bind_some, retB_bld]
theorem loopC {arms : List (Pa × Ex)} (hl : arms.length ≤ BIG) (hb : ∀ x, x ∈ arms → bk x.1.enc ≤ BIG) (hs : ∀ x, x ∈ arms → okF x.2) {nm : Str} {w w' : List Str} (hm : ∀ s, s ∈ w' ↔ s ∈ w ∨ s = nm) : ∀ (l : List (Pa × Ex)) (k : Nat) (out : List Str), arms.drop k = l →
    w.length + sumA l ≤ 2 * BIG → w'.length + sumA l ≤ 2 * BIG → out.length + sumA l ≤ 2 * BIG →
    ∃ r : List Str, L94_111101214 (w.map .str) (out.map .str) (arms.map eArm) k = some (.bld 1 (r.map .str), []) ∧ L94_111101214 (w'.map .str) ((cut nm out).map .str) (arms.map eArm) k = some (.bld 1 ((cut nm r).map .str), []) ∧ r.length ≤ out.length + sumA l
  | [], k, out, h, _, _, _ => ⟨out, by rw [e94_111101214, endK_map h]; rfl, by rw [e94_111101214, endK_map h]; rfl, by simp [sumA]⟩
  | x :: l, k, out, h, b1, b2, b3 => by
    have A' := atK h (len_max hl)
    have h1 := bk_arm x
    have h2 := bkE_pos x.2
    rw [sumA_cons] at b1 b2 b3 ⊢
    obtain ⟨ns, p1, p2⟩ := v82 (hb x (mem_drop h))
    have h3 := bk_pos x.1
    obtain ⟨o2, v1, v2, v3⟩ := hs x (mem_drop h) nm (w ++ ns) (w' ++ ns) out (mem_app hm ns) (by simp; omega) (by simp; omega) (by omega)
    obtain ⟨r, g1, g2, g3⟩ := loopC hl hb hs hm l (k + 1) o2 A'.drop (by omega) (by omega) (by omega)
    refine ⟨r, ?_, ?_, by omega⟩
    · rw [stepC h hl (by omega) p1 v1]; exact g1
    · rw [stepC h hl (by omega) p1 v2]; exact g2
end Go.AL.S3
