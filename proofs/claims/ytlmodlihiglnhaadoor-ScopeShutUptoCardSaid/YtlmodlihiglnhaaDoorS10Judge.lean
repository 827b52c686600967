/- The judge, of expressions: it comes to an end; where nothing is wrong, each has the parts that it needs. -/
import Derived.Test.YtlmodlihiglnhaaDoorS10Need
import Derived.Test.YtlmodlihiglnhaaDoorS10ED
set_option linter.unusedVariables false
set_option linter.unusedSimpArgs false
set_option maxRecDepth 20000
namespace Go.AL.S10
open Go Go.AL

theorem t94b {arms : List (Pa × Ex)} (hl : arms.length ≤ maxLen) (hp : ∀ x, x ∈ arms → Okp x.1) (hs : ∀ x, x ∈ arms → isI (V 94 [.pv x.2.enc])) : ∀ (l : List (Pa × Ex)) (k : Nat) (i : Int), arms.drop k = l → isI (L94_111014 i (arms.map eArm) k)
  | [], k, i, h => by rw [e94_111014, endK_map h]; exact .mk _
  | x :: l, k, i, h => by
    have A := atK_map (f := eArm) h hl
    have A' := atK h hl
    rw [e94_111014]
    simp only [A.lt, A.ge, A.get, A.next, cond_true, Option.bind_some, arm_fits, arm_ex, arm_pa]
    refine .ofI (hs x (mem_drop h)) fun n => ?_
    simp only [fits_i64, toInt_int, cond_true]
    refine .ofI (t118 (hp x (mem_drop h))) fun n => ?_
    simp only [fits_i64, toInt_int, cond_true]
    exact t94b hl hp hs l (k + 1) _ A'.drop
theorem t94a {e : Ex} (he : Okx e) (hb : ∀ i, isI (L94_111014 i (e.arms.map eArm) 0)) (hs : ∀ q, q ∈ e.args → isI (V 94 [.pv q.enc])) (k0 n0 : Int) (tx : Str) (ns tys : List PV) (at_ : Int) : ∀ (l : List Ex) (k : Nat) (i : Int), e.args.drop k = l → isI (L94_11014 i (e.args.map Ex.enc) k k0 n0 tx ns tys (e.arms.map eArm) at_)
  | [], k, i, h => by rw [e94_11014, endK_map h]; exact hb _
  | x :: l, k, i, h => by
    have A := atK_map (f := Ex.enc) h he.ars
    have A' := atK h he.ars
    rw [e94_11014]
    simp only [A.lt, A.ge, A.get, A.next, cond_true, Option.bind_some, ex_fits, ex_eta]
    refine .ofI (hs x (mem_drop h)) fun n => ?_
    simp only [fits_i64, toInt_int, cond_true]
    exact t94a he hb hs k0 n0 tx ns tys at_ l (k + 1) _ A'.drop
theorem t94 {e : Ex} : Okx e → isI (V 94 [.pv e.enc]) := by
  induction e using Ex.ind with
  | h e i1 i2 =>
    intro he
    rw [ex_enc, e94]
    exact t94a he (fun i => t94b he.rms he.pas (fun x hx => i2 x hx (he.exs x hx)) e.arms 0 i rfl) (fun q hq => i1 q hq (he.sub q hq)) _ _ _ _ _ _ e.args 0 1 rfl
theorem t120 (k num : Int) (tx : Str) (ns tys args arms : List PV) (at_ : Int) : isB (V 120 [.pv (.agg [.int .i64 k, .int .i64 num, .str tx, .lst ns, .lst tys, .lst args, .lst arms, .int .i64 at_])]) := by
  have a1 : ∀ b, isB (L120_1014131316 k b num tx ns tys args arms at_) := fun b => by
    rw [e120_1014131316]
    refine .bif ?_ (.bif ?_ (.mk _))
    · refine .ofB (t58 _) fun b => ?_
      simp only [fits_bool, toBool_bool, cond_true]
      exact .mk _
    · refine .ofB (t25 (xs := [[43], [45], [42], [47], [37], [60], [61], [94], [97, 110, 100], [111, 114], [110, 111, 116]]) tx (by decide)) fun b => ?_
      simp only [fits_bool, toBool_bool, cond_true]
      exact .mk _
  have a2 : ∀ b, isB (L120_10141316 k b num tx ns tys args arms at_) := fun b => by
    rw [e120_10141316]
    refine .bif ?_ (.bif (a1 _) (a1 _))
    refine .ofB (t54 _) fun b => ?_
    simp only [fits_bool, toBool_bool, cond_true]
    exact .mk _
  rw [e120]
  exact .bif (.mk _) (.bif (a2 _) (.bif (a2 _) (a2 _)))
theorem v55 (n : Int) : ∃ b, V 55 [.pv (.int .i64 n)] = some (.pv (.bool b), []) ∧ (b = true → 0 ≤ n) := by
  rw [e55]
  by_cases h : n ≥ 0
  · rw [decide_eq_true h]; exact ⟨_, rfl, fun _ => h⟩
  · rw [decide_eq_false h]; exact ⟨_, rfl, fun e => by cases e⟩
theorem v121 (k num : Int) (tx : Str) (ns tys args arms : List PV) (at_ : Int) : ∃ b, V 121 [.pv (.agg [.int .i64 k, .int .i64 num, .str tx, .lst ns, .lst tys, .lst args, .lst arms, .int .i64 at_])] = some (.pv (.bool b), []) ∧ (b = true → k = 18 → num = -1 ∨ 0 ≤ num) := by
  rw [e121]
  cases h2 : k == 2 with
  | true => exact ⟨_, rfl, fun _ e => by subst e; cases h2⟩
  | false =>
    cases h3 : k == 3 with
    | true =>
      cases num == 0 with
      | true => exact ⟨_, rfl, fun _ e => by subst e; cases h3⟩
      | false => exact ⟨_, rfl, fun _ e => by subst e; cases h3⟩
    | false =>
      cases h18 : k == 18 with
      | false => exact ⟨_, rfl, fun _ e => by subst e; cases h18⟩
      | true =>
        cases hn : num == -1 with
        | true => exact ⟨_, rfl, fun _ _ => .inl (by simpa using hn)⟩
        | false =>
          obtain ⟨b, g1, g2⟩ := v55 num
          rw [g1]
          exact ⟨b, rfl, fun e _ => .inr (g2 e)⟩
theorem v119 (k num : Int) (tx : Str) (ns tys args arms : List PV) (at_ : Int) : ∃ lo hi : Int, V 119 [.pv (.agg [.int .i64 k, .int .i64 num, .str tx, .lst ns, .lst tys, .lst args, .lst arms, .int .i64 at_])] = some (.pv (.tup [.int .i64 lo, .int .i64 hi]), []) ∧
    (lo ≤ (args.length : Int) → (args.length : Int) ≤ hi → (k = 18 → num = -1 ∨ 0 ≤ num) → ndF k num (args.length : Int) = (args.length : Int)) := by
  have a1 : ∀ b, (b = true → k = 9 ∨ k = 12 ∨ k = 14 ∨ k = 17) → ∃ lo hi : Int, L119_101416 k b num tx ns tys args arms at_ = some (.pv (.tup [.int .i64 lo, .int .i64 hi]), []) ∧
    (lo ≤ (args.length : Int) → (args.length : Int) ≤ hi → (k = 18 → num = -1 ∨ 0 ≤ num) → ndF k num (args.length : Int) = (args.length : Int)) := fun b hb => by
    rw [e119_101416]
    cases b with
    | true => exact ⟨_, _, rfl, fun _ _ _ => by rcases hb rfl with rfl | rfl | rfl | rfl <;> rfl⟩
    | false =>
      cases h11 : k == 11 with
      | true =>
        have : k = 11 := by simpa using h11
        subst this
        refine ⟨_, _, rfl, fun h1 _ _ => ?_⟩
        show (bif decide ((args.length : Int) > 1) then (args.length : Int) else 1) = _
        by_cases hg : (args.length : Int) > 1
        · rw [decide_eq_true hg]; rfl
        · rw [decide_eq_false hg]; show (1 : Int) = _; omega
      | false =>
        cases h8 : k == 8 with
        | true =>
          have : k = 8 := by simpa using h8
          subst this
          cases tx == ([110, 111, 116] : List UInt8) with
          | true => exact ⟨_, _, rfl, fun _ _ _ => rfl⟩
          | false => exact ⟨_, _, rfl, fun _ _ _ => rfl⟩
        | false =>
          cases h18 : k == 18 with
          | true =>
            have : k = 18 := by simpa using h18
            subst this
            cases hn : num == -1 with
            | true =>
              have : num = -1 := by simpa using hn
              subst this
              refine ⟨_, _, rfl, fun h1 h2 _ => ?_⟩
              show (0 : Int) = _
              omega
            | false =>
              refine ⟨_, _, rfl, fun h1 h2 h3 => ?_⟩
              have hnn : num ≠ -1 := by intro e; subst e; cases hn
              have h0 : ¬ num < 0 := by
                rcases h3 rfl with h | h
                · exact absurd h hnn
                · omega
              show (bif decide (num < 0) then (0 : Int) else 1) = _
              rw [decide_eq_false h0]
              show (1 : Int) = _
              omega
          | false =>
            rw [v96]
            refine ⟨ndF k num (args.length : Int), ndF k num (args.length : Int), rfl, fun h1 h2 _ => by omega⟩
  rw [e119]
  cases h9 : k == 9 with
  | true => exact a1 _ fun _ => .inl (by simpa using h9)
  | false =>
    cases h12 : k == 12 with
    | true => exact a1 _ fun _ => .inr (.inl (by simpa using h12))
    | false =>
      cases h14 : k == 14 with
      | true => exact a1 _ fun _ => .inr (.inr (.inl (by simpa using h14)))
      | false => exact a1 _ fun h => .inr (.inr (.inr (by simpa using h)))

/-- An expression that is right: each has the parts that it needs. -/
inductive Rt : Ex → Prop where
  | mk {e : Ex} : ndF e.kind e.num (e.args.length : Int) = (e.args.length : Int) → (e.arms = [] ∨ e.kind = 13 ∨ e.kind = 18) → (∀ a, a ∈ e.args → Rt a) → (∀ x, x ∈ e.arms → Rt x.2) → Rt e
def okJ (e : Ex) : Prop := ∀ (j : Int) (actor : Bool), JR (j = 0 ∧ Rt e) (V 95 [.box [.int .i64 j], .pv e.enc, .pv (.bool actor)])
theorem l95b {arms : List (Pa × Ex)} (hl : arms.length ≤ maxLen) (hp : ∀ x, x ∈ arms → Okp x.1) (hs : ∀ x, x ∈ arms → okJ x.2) (actor : Bool) : ∀ (l : List (Pa × Ex)) (k : Nat) (v : Int), arms.drop k = l → JR (v = 0 ∧ ∀ x, x ∈ l → Rt x.2) (L95_111111111114 actor (arms.map eArm) k v)
  | [], k, v, h => by rw [e95_111111111114, endK_map h]; exact .ret fun e => ⟨e, fun x hx => by cases hx⟩
  | x :: l, k, v, h => by
    have A := atK_map (f := eArm) h hl
    have A' := atK h hl
    rw [e95_111111111114]
    simp only [A.lt, A.ge, A.get, A.next, cond_true, Option.bind_some, arm_fits, arm_ex, arm_pa]
    refine .call (v122 (hp x (mem_drop h)) _) fun j1 h1 => ?_
    simp only [jb]
    refine .call (hs x (mem_drop h) _ _) fun j2 h2 => ?_
    simp only [jb]
    refine (l95b hl hp hs actor l (k + 1) j2 A'.drop).of fun ⟨e, g⟩ => ⟨h1 (h2 e).1, fun y hy => ?_⟩
    rcases List.mem_cons.1 hy with rfl | hy
    · exact (h2 e).2
    · exact g y hy
theorem l95a {e : Ex} (he : Okx e) (hs : ∀ a, a ∈ e.args → okJ a) (ht : ∀ x, x ∈ e.arms → okJ x.2) (actor : Bool) : ∀ (l : List Ex) (k : Nat) (v : Int), e.args.drop k = l →
    JR (v = 0 ∧ (∀ a, a ∈ l → Rt a) ∧ ∀ x, x ∈ e.arms → Rt x.2) (L95_111111111014 actor (e.args.map Ex.enc) k v e.kind e.num e.text (e.names.map .str) e.types (e.arms.map eArm) e.at_)
  | [], k, v, h => by
    rw [e95_111111111014, endK_map h]
    exact (l95b he.rms he.pas ht actor e.arms 0 v rfl).of fun ⟨e1, g⟩ => ⟨e1, fun a ha => (by cases ha), g⟩
  | x :: l, k, v, h => by
    have A := atK_map (f := Ex.enc) h he.ars
    have A' := atK h he.ars
    have go : ∀ b, JR (v = 0 ∧ (∀ a, a ∈ x :: l → Rt a) ∧ ∀ x, x ∈ e.arms → Rt x.2) ((V 95 [.box [.int .i64 v], .pv x.enc, .pv (.bool b)]).bind fun r => bif refFits [(0, some (Sh.agg [Sh.int .i64]))] [] r.2 then (retPV (r.1, [])).bind fun r1 => bif (Sh.tup []).fits r1 then L95_111111111014 actor (e.args.map Ex.enc) ((k + 1 : Nat) : Int) (((Out.b r 0).c 0).toInt) e.kind e.num e.text (e.names.map .str) e.types (e.arms.map eArm) e.at_ else none else none) := fun b => by
      refine .call (hs x (mem_drop h) _ _) fun j1 h1 => ?_
      simp only [jb]
      refine (l95a he hs ht actor l (k + 1) j1 A'.drop).of fun ⟨e1, g1, g2⟩ => ⟨(h1 e1).1, fun y hy => ?_, g2⟩
      rcases List.mem_cons.1 hy with rfl | hy
      · exact (h1 e1).2
      · exact g1 y hy
    rw [e95_111111111014]
    simp only [A.lt, A.ge, A.get, A.next, cond_true, Option.bind_some, ex_fits, ex_eta]
    cases actor with
    | true => exact go _
    | false => exact go _
theorem v95 {e : Ex} : Okx e → okJ e := by
  induction e using Ex.ind with
  | h e i1 i2 =>
    intro he j actor
    have hs : ∀ a, a ∈ e.args → okJ a := fun a ha => i1 a ha (he.sub a ha)
    have ht : ∀ x, x ∈ e.arms → okJ x.2 := fun x hx => i2 x hx (he.exs x hx)
    obtain ⟨ts, hts, _, htl, hto⟩ := he.tys
    have sB : ∀ v : Int, JR (v = 0 ∧ (∀ a, a ∈ e.args → Rt a) ∧ ∀ x, x ∈ e.arms → Rt x.2) (L95_1111111116 actor v e.kind e.num e.text (e.names.map .str) e.types (e.args.map Ex.enc) (e.arms.map eArm) e.at_) := fun v => by
      rw [e95_1111111116]; exact l95a he hs ht actor e.args 0 v rfl
    have s7 : ∀ v : Int, JR (v = 0 ∧ (∀ a, a ∈ e.args → Rt a) ∧ ∀ x, x ∈ e.arms → Rt x.2) (L95_11111116 actor v e.kind e.num e.text (e.names.map .str) e.types (e.args.map Ex.enc) (e.arms.map eArm) e.at_) := fun v => by
      rw [e95_11111116]
      refine .bif (fun hv => .ret fun e => ?_) fun _ => .bif (fun _ => ?_) fun _ => ?_
      · subst e; cases hv
      · refine .call (v53 _ _) fun j1 h1 => ?_
        simp only [jb]
        refine .call (v57 he.nms _) fun j2 h2 => ?_
        simp only [jb]
        rw [hts]
        refine .call (v59 htl hto _) fun j3 h3 => ?_
        simp only [jb]
        rw [← hts]
        exact (sB _).of fun ⟨e1, g⟩ => ⟨(h1 (h2 (h3 e1))).1, g⟩
      · refine .call (v53 _ _) fun j1 h1 => ?_
        simp only [jb]
        exact (sB _).of fun ⟨e1, g⟩ => ⟨(h1 e1).1, g⟩
    have s6 : ∀ (b : Bool) (v : Int), (b = true → e.kind = 13 ∨ e.kind = 18) → JR (v = 0 ∧ ((∀ a, a ∈ e.args → Rt a) ∧ ∀ x, x ∈ e.arms → Rt x.2) ∧ (e.arms = [] ∨ e.kind = 13 ∨ e.kind = 18)) (L95_1111116 actor b v e.kind e.num e.text (e.names.map .str) e.types (e.args.map Ex.enc) (e.arms.map eArm) e.at_) := fun b v hb => by
      rw [e95_1111116]
      rcases Classical.em (e.arms = [] ∨ e.kind = 13 ∨ e.kind = 18) with hA | hA
      · repeat' first
          | refine .bif (fun _ => ?_) (fun _ => ?_)
          | (refine .call (v53 _ _) fun j2 h2 => ?_; simp only [jb]; exact (s7 _).of fun ⟨e1, g⟩ => ⟨(h2 e1).1, g, hA⟩)
      · have hb' : b = false := by
          cases b with
          | false => rfl
          | true => exact absurd (.inr (hb rfl)) hA
        have hl' : (((List.length (e.arms.map eArm) : Nat) : Int) == 0) = false := by
          cases harms : e.arms with
          | nil => exact absurd (.inl harms) hA
          | cons a l => simp; omega
        rw [hb', hl']
        simp only [cond_false]
        refine .call (v53 _ _) fun j2 h2 => ?_
        simp only [jb]
        exact (s7 _).of fun ⟨e1, g⟩ => absurd (h2 e1).2 (by decide)
    have s5 : ∀ v : Int, JR (v = 0 ∧ ((∀ a, a ∈ e.args → Rt a) ∧ ∀ x, x ∈ e.arms → Rt x.2) ∧ (e.arms = [] ∨ e.kind = 13 ∨ e.kind = 18)) (L95_111116 actor v e.kind e.num e.text (e.names.map .str) e.types (e.args.map Ex.enc) (e.arms.map eArm) e.at_) := fun v => by
      rw [e95_111116]
      refine .bif (fun h => s6 _ _ fun _ => .inl (by simpa using h)) fun _ => s6 _ _ fun h => .inr (by simpa using h)
    obtain ⟨lo, hi, h119, hnd⟩ := v119 e.kind e.num e.text (e.names.map .str) e.types (e.args.map Ex.enc) (e.arms.map eArm) e.at_
    rw [List.length_map] at hnd
    obtain ⟨b1, h121, hb1⟩ := v121 e.kind e.num e.text (e.names.map .str) e.types (e.args.map Ex.enc) (e.arms.map eArm) e.at_
    have s4 : ∀ v : Int, JR (v = 0 ∧ Rt e) (L95_11116 actor lo hi v e.kind e.num e.text (e.names.map .str) e.types (e.args.map Ex.enc) (e.arms.map eArm) e.at_) := fun v => by
      rw [e95_11116]
      refine .bif (fun c1 => .bif (fun c2 => ?_) fun _ => ?_) fun _ => ?_
      · refine .ofB (t120 _ _ _ _ _ _ _ _) fun b _ => ?_
        simp only [fits_bool, toBool_bool, cond_true]
        refine .bif (fun _ => ?_) fun _ => ?_
        · rw [h121]
          simp only [Option.bind_some, retPV_pv, fits_bool, toBool_bool, cond_true]
          refine .call (v53 _ _) fun j2 h2 => ?_
          simp only [jb]
          refine (s5 _).of fun ⟨e1, ⟨g1, g2⟩, g3⟩ => ⟨(h2 e1).1, .mk ?_ g3 g1 g2⟩
          have c1' := of_decide_eq_true c1
          have c2' := of_decide_eq_true c2
          rw [List.length_map] at c1' c2'
          exact hnd c1' c2' (hb1 (h2 e1).2)
        · refine .call (v53 _ _) fun j2 h2 => ?_
          simp only [jb]
          exact (s5 _).of fun ⟨e1, _⟩ => absurd (h2 e1).2 (by decide)
      · refine .call (v53 _ _) fun j2 h2 => ?_
        simp only [jb]
        exact (s5 _).of fun ⟨e1, _⟩ => absurd (h2 e1).2 (by decide)
      · refine .call (v53 _ _) fun j2 h2 => ?_
        simp only [jb]
        exact (s5 _).of fun ⟨e1, _⟩ => absurd (h2 e1).2 (by decide)
    have fits2 : ∀ a b : Int, (Sh.tup [Sh.int .i64, Sh.int .i64]).fits (.tup [.int .i64 a, .int .i64 b]) = true := fun _ _ => nrfl rfl
    rw [ex_enc, e95, h119]
    simp only [Option.bind_some, retPV_pv, fits2, cond_true, r_zero, r_succ, toInt_int]
    refine .call (v53 _ _) fun j1 h1 => ?_
    simp only [jb]
    repeat' first
      | refine .bif (fun _ => ?_) (fun _ => ?_)
      | (refine .call (v52 _ _) fun j2 h2 => ?_; simp only [jb]; exact (s4 _).of fun ⟨e1, g⟩ => ⟨(h1 (h2 e1).1).1, g⟩)
theorem v61 {e : Ex} (he : Okx e) (hb : bk e.enc ≤ BIG) (j : Int) (actor : Bool) : JR (j = 0 ∧ Rt e) (V 61 [.box [.int .i64 j], .pv e.enc, .pv (.bool actor)]) := by
  obtain ⟨n, h65, _⟩ := v65 hb
  obtain ⟨m, h94⟩ := t94 he
  have hv := v95 he
  unfold okJ at hv
  rw [ex_enc] at h65 h94 hv ⊢
  rw [e61, h65]
  simp only [Option.bind_some, retPV_pv, fits_i64, cond_true, toInt_int]
  refine .bif (fun _ => ?_) fun _ => ?_
  · rw [h94]
    simp only [Option.bind_some, retPV_pv, fits_i64, cond_true, toInt_int]
    refine .call (v52 _ _) fun j1 h1 => ?_
    simp only [jb]
    refine .call (hv _ _) fun j2 h2 => ?_
    simp only [jb]
    exact .ret fun e1 => ⟨(h1 (h2 e1).1).1, (h2 e1).2⟩
  · refine .call (v52 _ _) fun j1 h1 => ?_
    simp only [jb]
    refine .call (hv _ _) fun j2 h2 => ?_
    simp only [jb]
    exact .ret fun e1 => ⟨(h1 (h2 e1).1).1, (h2 e1).2⟩
end Go.AL.S10
