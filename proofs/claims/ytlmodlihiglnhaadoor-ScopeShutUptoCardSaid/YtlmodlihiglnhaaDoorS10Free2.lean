/- What a pattern binds; what counts in an expression; what is free. -/
import Derived.Test.YtlmodlihiglnhaaDoorS10Free
set_option linter.unusedVariables false
set_option linter.unusedSimpArgs false
set_option maxRecDepth 20000
namespace Go.AL.S10.Fr
open Go Go.AL Go.AL.S10

mutual
def bn : Pa → List Str
  | .mk k _ t args => bif k == 2 then [t] else bif k == 6 then bns args else []
def bns : List Pa → List Str
  | [] => []
  | p :: l => bn p ++ bns l
end
theorem bns_map (l : List Pa) : bns l = l.flatMap bn := by
  induction l with
  | nil => simp [bns]
  | cons p l ih => simp [bns, ih]
theorem bn_eq (p : Pa) : bn p = bif p.kind == 2 then [p.text] else bif p.kind == 6 then p.args.flatMap bn else [] := by
  cases p; rw [bn, bns_map]; rfl
theorem bn_len (p : Pa) : (bn p).length + 1 ≤ bk p.enc := by
  refine Pa.ind (Q := fun p => (bn p).length + 1 ≤ bk p.enc) (fun p ih => ?_) p
  have h1 := bk_pa p
  have h2 : ∀ l : List Pa, (∀ q, q ∈ l → (bn q).length + 1 ≤ bk q.enc) → (l.flatMap bn).length ≤ sumP l := by
    intro l
    induction l with
    | nil => intro _; simp
    | cons q l ihl =>
      intro h
      have a := h q (by simp)
      have b := ihl (fun q hq => h q (by simp [hq]))
      simp only [List.flatMap_cons, List.length_append, sumP_cons]
      omega
  have h3 := h2 p.args ih
  rw [bn_eq]
  cases p.kind == 2 with
  | true => simp; omega
  | false =>
    cases p.kind == 6 with
    | true => simp only [cond_false, cond_true]; omega
    | false => simp; omega
/-- A call answers with these names. -/
def NL (o : Option Out) (l : List Str) : Prop := o.bind retPV = some (.lst (l.map .str))
theorem l62 {args : List Pa} (hl : args.length ≤ BIG) (hs : ∀ q, q ∈ args → NL (V 62 [.pv q.enc]) (bn q)) : ∀ (l : List Pa) (k : Nat) (acc : List Str), args.drop k = l → acc.length + sumP l ≤ 2 * BIG → L62_101413121014 (acc.map .str) (args.map Pa.enc) k = some (.bld 1 ((acc ++ l.flatMap bn).map .str), [])
  | [], k, acc, h, _ => by rw [e62_101413121014, endK_map h]; simp
  | x :: l, k, acc, h, hb => by
    have A := atK_map (f := Pa.enc) h (len_max hl)
    have A' := atK h (len_max hl)
    have h1 := hs x (mem_drop h)
    unfold NL at h1
    have h2 := bn_len x
    rw [sumP_cons] at hb
    have ih := l62 hl hs l (k + 1) (acc ++ bn x) A'.drop (by simp; omega)
    have hsm : small (acc.map PV.str).length ((bn x).map PV.str).length 16 = true := small_of (by simp only [BIG] at hb; simp; omega)
    rw [e62_101413121014]
    simp only [A.lt, A.ge, A.get, A.next, cond_true, Option.bind_some]
    simp only [pa_fits, pa_eta, cond_true, h1, Option.bind_some, fits_lstS, toLst_lst, headOk_str, hsm]
    rw [← List.map_append, ih, List.flatMap_cons, List.append_assoc]
theorem v62 {p : Pa} : bk p.enc ≤ BIG → NL (V 62 [.pv p.enc]) (bn p) := by
  refine Pa.ind (Q := fun p => bk p.enc ≤ BIG → NL (V 62 [.pv p.enc]) (bn p)) (fun p ih hb => ?_) p
  have h1 := bk_pa p
  have h2 := len_sumP p.args
  have hsub : ∀ q, q ∈ p.args → NL (V 62 [.pv q.enc]) (bn q) := fun q hq => ih q hq (by
    have : bk q.enc ≤ sumP p.args := le_sum (List.mem_map.2 ⟨q, hq, rfl⟩)
    omega)
  have hL := l62 (args := p.args) (by omega) hsub p.args 0 [] rfl (by simp; omega)
  have e := e62 p.kind p.num p.text (p.args.map Pa.enc)
  rw [← pa_enc p] at e
  rw [e, bn_eq]
  cases p.kind == 2 with
  | true => rfl
  | false =>
    cases p.kind == 6 with
    | true =>
      simp only [cond_false, cond_true]
      have hL' : L62_101413121014 [] (p.args.map Pa.enc) 0 = _ := hL
      rw [hL', List.nil_append]; rfl
    | false => rfl
/-! #### What counts -/
abbrev Sc := Ex × List Str
def sc (e : Ex) (i : Nat) : List Str := if e.kind = 10 then e.names else if e.kind = 6 ∧ i = 1 then [e.text] else []
def scs (e : Ex) : List Ex → Nat → List Sc
  | [], _ => []
  | a :: l, i => (a, sc e i) :: scs e l (i + 1)
def armS (x : Pa × Ex) : Sc := (x.2, bn x.1)
def cnt (e : Ex) : List Sc := scs e e.args 0 ++ e.arms.map armS
inductive Fv : Ex → Str → Prop where
  | var {e : Ex} : e.kind = 5 → Fv e e.text
  | part {e : Ex} {p : Sc} {s : Str} : e.kind ≠ 5 → p ∈ cnt e → Fv p.1 s → s ∉ p.2 → Fv e s
theorem fv_var {e : Ex} (h : e.kind = 5) (s : Str) : Fv e s ↔ s = e.text :=
  ⟨fun h' => by cases h' with
    | var => rfl
    | part h2 => exact absurd h h2, fun h' => by subst h'; exact .var h⟩
theorem fv_part {e : Ex} (h : e.kind ≠ 5) (s : Str) : Fv e s ↔ ∃ p, p ∈ cnt e ∧ Fv p.1 s ∧ s ∉ p.2 :=
  ⟨fun h' => by cases h' with
    | var h2 => exact absurd h2 h
    | part _ h3 h4 h5 => exact ⟨_, h3, h4, h5⟩, fun ⟨p, h1, h2, h3⟩ => .part h h1 h2 h3⟩
theorem inn_sc (e : Ex) (k : Nat) (w : List Str) (s : Str) : s ∈ inn e k w ↔ s ∈ w ∨ s ∈ sc e k := by
  unfold inn sc
  split
  · rw [List.mem_append]
  · split
    · rw [List.mem_append]
    · simp

/-! #### Free names, of the tree -/
def okF (e : Ex) : Prop := ∀ (w out : List Str), w.length + bk e.enc ≤ 2 * BIG → out.length + bk e.enc ≤ 2 * BIG →
  ∃ r : List Str, V 74 [.pv e.enc, .pv (.lst (w.map .str)), .bld 1 (out.map .str)] = some (.bld 1 (r.map .str), []) ∧ r.length ≤ out.length + bk e.enc ∧ ∀ s, s ∈ r ↔ s ∈ out ∨ (Fv e s ∧ s ∉ w)
theorem loopB {e : Ex} {n : Int} (hn : (e.args.take n.toNat) = e.args) (hb : bk e.enc ≤ BIG) (hs : ∀ a, a ∈ e.args → okF a) (w : List Str) (hw : w.length + bk e.enc ≤ 2 * BIG) : ∀ (l : List Ex) (k : Nat) (out : List Str), e.args.drop k = l → k ≤ e.args.length → out.length + sumE l ≤ 2 * BIG →
    ∃ o2 : List Str, L74_111014 (w.map .str) (out.map .str) (e.args.map Ex.enc) n k e.kind e.num e.text (e.names.map .str) e.types (e.arms.map eArm) e.at_ = L74_111014 (w.map .str) (o2.map .str) (e.args.map Ex.enc) n (e.args.length : Nat) e.kind e.num e.text (e.names.map .str) e.types (e.arms.map eArm) e.at_ ∧
      o2.length ≤ out.length + sumE l ∧ ∀ s, s ∈ o2 ↔ s ∈ out ∨ ∃ p, p ∈ scs e l k ∧ Fv p.1 s ∧ s ∉ p.2 ∧ s ∉ w
  | [], k, out, h, hk, _ => by
    have : k = e.args.length := by have := congrArg List.length h; simp at this; omega
    subst this
    exact ⟨out, rfl, by simp [sumE], fun s => by simp [scs]⟩
  | x :: l, k, out, h, hk, b => by
    have hx := bk_ex' e
    have hlA := len_sumE e.args
    have A' := atK h (len_max (by omega))
    rw [sumE_cons] at b ⊢
    have hxb : bk x.enc ≤ sumE e.args := le_sum (List.mem_map.2 ⟨x, mem_drop h, rfl⟩)
    have hil := inn_len e k w
    obtain ⟨o2, v1, v2, v3⟩ := hs x (mem_drop h) (inn e k w) out (by omega) (by omega)
    obtain ⟨o3, g1, g2, g3⟩ := loopB hn hb hs w hw l (k + 1) o2 A'.drop A'.ltn (by omega)
    refine ⟨o3, (stepB (by rw [hn]; exact h) (by omega) (by omega) v1).trans g1, by omega, fun s => ?_⟩
    rw [g3 s, v3 s]
    simp only [scs, List.mem_cons, inn_sc, not_or]
    constructor
    · rintro ((h1 | ⟨h1, h2, h3⟩) | ⟨p, h1, h2⟩)
      · exact .inl h1
      · exact .inr ⟨(x, sc e k), .inl rfl, h1, h3, h2⟩
      · exact .inr ⟨p, .inr h1, h2⟩
    · rintro (h1 | ⟨p, rfl | h1, h2, h3, h4⟩)
      · exact .inl (.inl h1)
      · exact .inl (.inr ⟨h2, h4, h3⟩)
      · exact .inr ⟨p, h1, h2, h3, h4⟩
theorem loopC {arms : List (Pa × Ex)} (hl : arms.length ≤ BIG) (hb : ∀ x, x ∈ arms → bk x.1.enc ≤ BIG) (hs : ∀ x, x ∈ arms → okF x.2) (w : List Str) : ∀ (l : List (Pa × Ex)) (k : Nat) (out : List Str), arms.drop k = l →
    w.length + sumA l ≤ 2 * BIG → out.length + sumA l ≤ 2 * BIG →
    ∃ r : List Str, L74_111101214 (w.map .str) (out.map .str) (arms.map eArm) k = some (.bld 1 (r.map .str), []) ∧ r.length ≤ out.length + sumA l ∧ ∀ s, s ∈ r ↔ s ∈ out ∨ ∃ p, p ∈ l.map armS ∧ Fv p.1 s ∧ s ∉ p.2 ∧ s ∉ w
  | [], k, out, h, _, _ => ⟨out, by rw [e74_111101214, endK_map h]; rfl, by simp [sumA], fun s => by simp⟩
  | x :: l, k, out, h, b1, b3 => by
    have A' := atK h (len_max hl)
    have h1 := bk_arm x
    have h2 := bkE_pos x.2
    rw [sumA_cons] at b1 b3 ⊢
    have p1 := v62 (hb x (mem_drop h))
    have p2 := bn_len x.1
    obtain ⟨o2, v1, v2, v3⟩ := hs x (mem_drop h) (w ++ bn x.1) out (by simp; omega) (by omega)
    obtain ⟨r, g1, g2, g3⟩ := loopC hl hb hs w l (k + 1) o2 A'.drop (by omega) (by omega)
    refine ⟨r, (stepC h hl (by omega) p1 v1).trans g1, by omega, fun s => ?_⟩
    rw [g3 s, v3 s]
    simp only [List.map_cons, List.mem_cons, List.mem_append, not_or]
    constructor
    · rintro ((h1 | ⟨h1, h2, h3⟩) | ⟨p, h1, h2⟩)
      · exact .inl h1
      · exact .inr ⟨armS x, .inl rfl, h1, h3, h2⟩
      · exact .inr ⟨p, .inr h1, h2⟩
    · rintro (h1 | ⟨p, rfl | h1, h2, h3, h4⟩)
      · exact .inl (.inl h1)
      · exact .inl (.inr ⟨h2, h4, h3⟩)
      · exact .inr ⟨p, h1, h2, h3, h4⟩
theorem rt_nd {e : Ex} (h : Rt e) : ndF e.kind e.num (e.args.length : Int) = (e.args.length : Int) := by cases h; assumption
theorem rt_arms {e : Ex} (h : Rt e) : e.arms = [] ∨ e.kind = 13 ∨ e.kind = 18 := by cases h; assumption
theorem rt_sub {e : Ex} (h : Rt e) : ∀ a, a ∈ e.args → Rt a := by cases h; assumption
theorem rt_exs {e : Ex} (h : Rt e) : ∀ x, x ∈ e.arms → Rt x.2 := by cases h; assumption
theorem v74 {e : Ex} : Rt e → bk e.enc ≤ BIG → okF e := by
  induction e using Ex.ind with
  | h e i1 i2 =>
    intro hr hb w out hw ho
    have hx := bk_ex' e
    have hE := len_sumE e.args
    have hA := len_sumA e.arms
    have sub : ∀ a, a ∈ e.args → okF a := fun a ha => i1 a ha (rt_sub hr a ha) (by have := bk_args ha; omega)
    have exs : ∀ x, x ∈ e.arms → okF x.2 := fun x hx' => i2 x hx' (rt_exs hr x hx') (by have := bk_arms' hx'; have := bk_arm x; have := bk_pos x.1; omega)
    have pas : ∀ x, x ∈ e.arms → bk x.1.enc ≤ BIG := fun x hx' => by have := bk_arms' hx'; have := bk_arm x; have := bkE_pos x.2; omega
    have hn := rt_nd hr
    have ev := e74 e.kind e.num e.text (e.names.map .str) e.types (e.args.map Ex.enc) (e.arms.map eArm) e.at_ (w.map .str) (out.map .str)
    rw [← ex_enc, ex_enc e, v103, ← ex_enc e, List.length_map, hn] at ev
    simp only [Option.bind_some, retPV_pv, fits_i64, cond_true, toInt_int] at ev
    rw [decide_eq_false (show ¬ ((e.args.length : Nat) : Int) < 0 by omega)] at ev
    rw [ev]
    simp only [cond_false]
    cases h5 : e.kind == 5 with
    | true =>
      have k5 : e.kind = 5 := by simpa using h5
      have w25 := v25 (xs := w) (s := e.text) (by have : w.length ≤ 2 * BIG := by omega
                                                  exact Nat.le_trans this (by decide))
      have o25 := v25 (xs := out) (s := e.text) (by have : out.length ≤ 2 * BIG := by omega
                                                    exact Nat.le_trans this (by decide))
      simp only [cond_true]
      rw [w25]
      simp only [Option.bind_some, retPV_pv, fits_bool, toBool_bool, cond_true]
      have end_ : ∀ b, L74_11041312016 (out.map .str) b e.kind e.num e.text (e.names.map .str) e.types (e.args.map Ex.enc) (e.arms.map eArm) e.at_ = some (.bld 1 ((bif b then out ++ [e.text] else out).map .str), []) := fun b => by
        rw [e74_11041312016]
        cases b with
        | false => rfl
        | true =>
          have hs1 : small (out.map PV.str).length 1 16 = true := small_of (by simp only [BIG] at ho; simp; omega)
          simp only [cond_true, hs1, List.map_append]; rfl
      by_cases hw' : e.text ∈ w
      · have : has w e.text = true := decide_eq_true hw'
        rw [this]
        simp only [Bool.not_true, cond_false]
        rw [end_]
        refine ⟨out, rfl, by omega, fun s => ?_⟩
        rw [fv_var k5]
        constructor
        · exact .inl
        · rintro (h | ⟨rfl, h⟩)
          · exact h
          · exact absurd hw' h
      · have : has w e.text = false := decide_eq_false hw'
        rw [this]
        simp only [Bool.not_false, cond_true]
        rw [o25]
        simp only [Option.bind_some, retPV_pv, fits_bool, toBool_bool, cond_true]
        rw [end_]
        by_cases ho' : e.text ∈ out
        · have : has out e.text = true := decide_eq_true ho'
          rw [this]
          refine ⟨out, rfl, by omega, fun s => ?_⟩
          rw [fv_var k5]
          constructor
          · exact .inl
          · rintro (h | ⟨rfl, h⟩)
            · exact h
            · exact ho'
        · have : has out e.text = false := decide_eq_false ho'
          rw [this]
          refine ⟨out ++ [e.text], rfl, by simp; omega, fun s => ?_⟩
          rw [fv_var k5, List.mem_append, List.mem_singleton]
          constructor
          · rintro (h | rfl)
            · exact .inl h
            · exact .inr ⟨rfl, hw'⟩
          · rintro (h | ⟨h, _⟩)
            · exact .inl h
            · exact .inr h
    | false =>
      have k5 : e.kind ≠ 5 := by simpa using h5
      have hh := headOk_ex e.args
      simp only [cond_false]
      rw [decide_eq_false (show ¬ ((e.args.length : Nat) : Int) < ((e.args.length : Nat) : Int) by omega), hh, decide_eq_true (show (0 : Int) ≤ ((e.args.length : Nat) : Int) by omega), decide_eq_true (show ((e.args.length : Nat) : Int) ≤ ((e.args.length : Nat) : Int) by omega)]
      simp only [cond_false, cond_true, Bool.and_self]
      have htk : e.args.take ((e.args.length : Nat) : Int).toNat = e.args := by simp
      obtain ⟨o2, g1, g2, g3⟩ := loopB htk hb sub w hw e.args 0 out rfl (by omega) (by omega)
      have g1' : L74_111014 (w.map .str) (out.map .str) (e.args.map Ex.enc) ((e.args.length : Nat) : Int) 0 e.kind e.num e.text (e.names.map .str) e.types (e.arms.map eArm) e.at_ = _ := g1
      have hend : decide (((e.args.length : Nat) : Int) < ((((e.args.map Ex.enc).take ((e.args.length : Nat) : Int).toNat).length : Nat) : Int)) = false := decide_eq_false (by simp)
      rw [g1', e74_111014, hend]
      simp only [cond_false]
      have last : ∀ b, (b = true → e.kind = 13 ∨ e.kind = 18) → (b = false → e.arms = []) → ∃ r : List Str, L74_1111016 (w.map .str) (o2.map .str) b e.kind e.num e.text (e.names.map .str) e.types (e.args.map Ex.enc) (e.arms.map eArm) e.at_ = some (.bld 1 (r.map .str), []) ∧ r.length ≤ out.length + bk e.enc ∧ ∀ s, s ∈ r ↔ s ∈ out ∨ (Fv e s ∧ s ∉ w) := fun b _ hb2 => by
        rw [e74_1111016]
        cases b with
        | true =>
          obtain ⟨r, q1, q2, q3⟩ := loopC (arms := e.arms) (by omega) pas exs w e.arms 0 o2 rfl (by omega) (by omega)
          refine ⟨r, q1, by omega, fun s => ?_⟩
          rw [q3 s, g3 s, fv_part k5]
          unfold cnt
          constructor
          · rintro ((h | ⟨p, h1, h2, h3, h4⟩) | ⟨p, h1, h2, h3, h4⟩)
            · exact .inl h
            · exact .inr ⟨⟨p, List.mem_append.2 (.inl h1), h2, h3⟩, h4⟩
            · exact .inr ⟨⟨p, List.mem_append.2 (.inr h1), h2, h3⟩, h4⟩
          · rintro (h | ⟨⟨p, h1, h2, h3⟩, h4⟩)
            · exact .inl (.inl h)
            · rcases List.mem_append.1 h1 with h1 | h1
              · exact .inl (.inr ⟨p, h1, h2, h3, h4⟩)
              · exact .inr ⟨p, h1, h2, h3, h4⟩
        | false =>
          have ha := hb2 rfl
          refine ⟨o2, rfl, by omega, fun s => ?_⟩
          rw [g3 s, fv_part k5]
          unfold cnt
          rw [ha]
          simp only [List.map_nil, List.append_nil]
          constructor
          · rintro (h | ⟨p, h1, h2, h3, h4⟩)
            · exact .inl h
            · exact .inr ⟨⟨p, h1, h2, h3⟩, h4⟩
          · rintro (h | ⟨⟨p, h1, h2, h3⟩, h4⟩)
            · exact .inl h
            · exact .inr ⟨p, h1, h2, h3, h4⟩
      cases h13 : e.kind == 13 with
      | true => exact last true (fun _ => .inl (by simpa using h13)) (fun h => by cases h)
      | false =>
        simp only [cond_false]
        refine last _ (fun h => .inr (by simpa using h)) fun h => ?_
        rcases rt_arms hr with h' | h' | h'
        · exact h'
        · rw [h'] at h13; cases h13
        · rw [h'] at h; cases h
theorem v32 {e : Ex} (hr : Rt e) (hb : bk e.enc ≤ BIG) : ∃ r : List Str, V 32 [.pv e.enc] = some (.bld 1 (r.map .str), []) ∧ r.length ≤ bk e.enc ∧ ∀ s, s ∈ r ↔ Fv e s := by
  obtain ⟨r, h1, h2, h3⟩ := v74 hr hb [] [] (by simp; omega) (by simp; omega)
  have ev := e32 e.kind e.num e.text (e.names.map .str) e.types (e.args.map Ex.enc) (e.arms.map eArm) e.at_
  rw [← ex_enc] at ev
  have h1' : V 74 [.pv e.enc, .pv (.lst []), .bld 1 []] = some (.bld 1 (r.map .str), []) := h1
  rw [ev, h1']
  exact ⟨r, rfl, by simpa using h2, fun s => by rw [h3 s]; simp⟩
end Go.AL.S10.Fr
