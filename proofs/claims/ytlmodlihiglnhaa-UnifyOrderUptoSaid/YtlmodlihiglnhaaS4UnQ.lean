/- Types made alike: one pair. -/
import Derived.Test.YtlmodlihiglnhaaS4UnP
set_option linter.unusedVariables false
set_option linter.unusedSimpArgs false
namespace Go.AL.S4.Un
open Go Go.AL Go.AL.S4

def gtS (v w : Str) : Bool := !(Op.bytesLess v w || v == w)
def okP (W : List Str) (n : Nat) : Prop := ∀ l a b r, Inv W l → Inn W a → Inn W b → OkL l → Okt a → Okt b → pairF big gtS n l a b = some r → V 51 [.own 4 (l.map eB), .pv a.enc, .pv b.enc] = some (encR r) ∧ ∀ l', r = .ok l' → OkL l'
theorem encR_T (r : Res) : ∃ xs e, encR r = tup4 xs e ∧ ((∃ l, r = .ok l ∧ xs = l.map eB ∧ e = 0) ∨ ((∀ l, r ≠ .ok l) ∧ xs = [] ∧ e ≠ 0)) := by
  cases r with
  | ok l => exact ⟨_, _, rfl, .inl ⟨l, rfl, rfl, rfl⟩⟩
  | bad => exact ⟨_, _, rfl, .inr ⟨fun l => (by intro h; cases h), rfl, by decide⟩⟩
  | loop => exact ⟨_, _, rfl, .inr ⟨fun l => (by intro h; cases h), rfl, by decide⟩⟩
  | large => exact ⟨_, _, rfl, .inr ⟨fun l => (by intro h; cases h), rfl, by decide⟩⟩
theorem l51 {W : List Str} {n : Nat} (hn : okP W n) {us ws : List Ty} (hla : us.length ≤ maxLen) (hlen : us.length = ws.length) (ha : ∀ t, t ∈ us → Inn W t ∧ Okt t) (hb : ∀ t, t ∈ ws → Inn W t ∧ Okt t) (v2 : Int) (v : Str) (v4 : Int) (v1 : Str) : ∀ (xs ys : List Ty) (k : Nat) (l : List Bd) (r : Res), us.drop k = xs → ws.drop k = ys → Inv W l → OkL l → goArgs (pairF big gtS n) l xs ys = some r →
    L51_1111014 (us.map Ty.enc) k v2 v v4 v1 (ws.map Ty.enc) (l.map eB) = some (encR r) ∧ ∀ l', r = .ok l' → OkL l'
  | [], ys, k, l, r, h1, h2, hi, ho, e => by
    obtain rfl := Option.some.inj e
    refine ⟨?_, fun l' h => by cases h; exact ho⟩
    rw [e51_1111014, endK_map h1]
    rfl
  | x :: xs, [], k, l, r, h1, h2, hi, ho, e => by
    exfalso
    have g1 := congrArg List.length h1
    have g2 := congrArg List.length h2
    simp at g1 g2
    omega
  | x :: xs, y :: ys, k, l, r, h1, h2, hi, ho, e => by
    have A := atK_map (f := Ty.enc) h1 hla
    have A' := atK h1 hla
    have B := atK_map (f := Ty.enc) h2 (by omega)
    have B' := atK h2 (by omega)
    simp only [goArgs] at e
    cases hf : pairF big gtS n l x y with
    | none => rw [hf] at e; cases e
    | some r1 =>
      rw [hf] at e
      have hx := ha x (mem_drop h1)
      have hy := hb y (mem_drop h2)
      obtain ⟨g1, g2⟩ := hn l x y r1 hi hx.1 hy.1 ho hx.2 hy.2 hf
      have hsay := pairF_says n l x y r1 hi hx.1 hy.1 hf
      obtain ⟨zs, c, c1, c2⟩ := encR_T r1
      rw [e51_1111014]
      simp only [A.lt, A.ge, A.get, A.next, B.get, cond_true, Option.bind_some, Bool.and_self]
      simp only [ty_fits, ty_k, ty_n, ty_a, ty_eta, cond_true]
      rw [g1, c1]
      simp only [Option.bind_some, retT_tup4, fits_tup4, val_tup4, cond_true]
      rcases c2 with ⟨l', rfl, rfl, rfl⟩ | ⟨c2, rfl, c3⟩
      · simp only at e
        exact l51 hn hla hlen ha hb v2 v v4 v1 xs ys (k + 1) l' r A'.drop B'.drop hsay.1 (g2 l' rfl) e
      · have hr : r1 = r := by
          cases r1 with
          | ok l' => exact absurd rfl (c2 l')
          | bad => exact Option.some.inj e
          | loop => exact Option.some.inj e
          | large => exact Option.some.inj e
        subst hr
        rw [show (c != 0) = true from by simpa using c3]
        exact ⟨by rw [c1]; rfl, g2⟩
theorem tw {W : List Str} {l : List Bd} (h : Inv W l) {t : Ty} (ht : Inn W t) (ho : OkL l) (hk : Okt t) : ∀ v, v ∈ (ap (lk l) t).args → Inn W v ∧ Okt v := fun v hv => by
  have h1 := h.pur_ap ht
  have h3 := okt_ap ho hk
  generalize ap (lk l) t = t' at *
  obtain ⟨k, m, args⟩ := t'
  exact ⟨⟨h1.1.sub v hv, fun n hn hq => h1.2 n (.arg hv hn) hq⟩, h3.sub v hv⟩
theorem okt_len {t : Ty} (h : Okt t) : t.args.length ≤ maxLen := by cases t; exact h.len
theorem v51 {W : List Str} (hW : W.length ≤ BIG) : ∀ n, okP W n
  | 0 => fun _ _ _ _ _ _ _ _ _ _ e => by cases e
  | n + 1 => fun l a b r hi ha hb ho oa ob e => by
    have ih := v51 hW n
    have hl : l.length ≤ BIG := by have := hi.len; omega
    have va := v20 (l := l) (by omega) ho oa
    have vb := v20 (l := l) (by omega) ho ob
    have h0 := e51 (l.map eB) a.kind a.name (a.args.map Ty.enc) b.kind b.name (b.args.map Ty.enc)
    rw [ty_eta, ty_eta] at h0
    rw [h0, all4, va]
    simp only [Bool.and_self, cond_true, Option.bind_some, rf1, ov1]
    rw [vb]
    simp only [Option.bind_some, rf1, ov1, retPV_pv, ty_fits, cond_true, ty_k, ty_n, ty_a, ty_eta]
    have hia := hi.pur_ap ha
    have hib := hi.pur_ap hb
    have oka := okt_ap ho oa
    have okb := okt_ap ho ob
    have twa := tw hi ha ho oa
    have twb := tw hi hb ho ob
    simp only [pairF] at e
    generalize ap (lk l) a = a' at *
    generalize ap (lk l) b = b' at *
    rw [v81 a', v81 b']
    simp only [Option.bind_some, retPV_pv, fits_bool, toBool_bool, cond_true]
    -- the last step
    have step3 : ∀ p : Arg, (bif unk b' then some (bindF big l b'.name a') else bif !(a'.kind == b'.kind) || (!(a'.name == b'.name) || !(a'.args.length == b'.args.length)) then some Res.bad else goArgs (pairF big gtS n) l a'.args b'.args) = some r →
        L51_11041316 false a'.kind a'.name (a'.args.map Ty.enc) b'.kind b'.name (b'.args.map Ty.enc) (p, [.vec (l.map eB)]) = some (encR r) ∧ ∀ l', r = .ok l' → OkL l' := fun p e => by
      rw [e51_11041316]
      simp only [cond_false, ty_eta, ov1]
      rw [v81 b']
      simp only [Option.bind_some, retPV_pv, fits_bool, toBool_bool, cond_true]
      cases hu : unk b' with
      | true =>
        rw [hu] at e
        simp only [cond_true] at e ⊢
        obtain rfl := Option.some.inj e
        obtain ⟨eb, qb⟩ := unk_name hu
        rw [v82 hW hl ho qb oka hia]
        obtain ⟨zs, c, c1, c2⟩ := encR_T (bindF big l b'.name a')
        rw [c1]
        simp only [Option.bind_some, retT_tup4, fits_tup4, val_tup4, cond_true]
        exact ⟨rfl, fun l' h => bindF_okl ho oka h⟩
      | false =>
        rw [hu] at e
        simp only [cond_false] at e ⊢
        by_cases k1 : a'.kind = b'.kind
        · by_cases k2 : a'.name = b'.name
          · by_cases k3 : a'.args.length = b'.args.length
            · rw [show (a'.kind != b'.kind) = false from by simpa using k1, show (a'.name == b'.name) = true from by simpa using k2, show (((a'.args.map Ty.enc).length : Int) != ((b'.args.map Ty.enc).length : Int)) = false from by simp; omega]
              rw [k1, k2, k3] at e
              simp only [beq_self_eq_true, Bool.not_true, Bool.or_self, cond_false] at e ⊢
              exact l51 ih (okt_len oka) k3 twa twb a'.kind a'.name b'.kind b'.name a'.args b'.args 0 l r rfl rfl hi ho e
            · rw [show (a'.kind != b'.kind) = false from by simpa using k1, show (a'.name == b'.name) = true from by simpa using k2, show (((a'.args.map Ty.enc).length : Int) != ((b'.args.map Ty.enc).length : Int)) = true from by simp; omega]
              rw [show (!(a'.kind == b'.kind) || (!(a'.name == b'.name) || !(a'.args.length == b'.args.length))) = true from by simp [k3]] at e
              simp only [cond_true] at e
              obtain rfl := Option.some.inj e
              exact ⟨rfl, fun l' h => by cases h⟩
          · rw [show (a'.kind != b'.kind) = false from by simpa using k1, show (a'.name == b'.name) = false from by simpa using k2]
            rw [show (!(a'.kind == b'.kind) || (!(a'.name == b'.name) || !(a'.args.length == b'.args.length))) = true from by simp [k2]] at e
            simp only [cond_true] at e
            obtain rfl := Option.some.inj e
            exact ⟨rfl, fun l' h => by cases h⟩
        · rw [show (a'.kind != b'.kind) = true from by simpa using k1]
          rw [show (!(a'.kind == b'.kind) || (!(a'.name == b'.name) || !(a'.args.length == b'.args.length))) = true from by simp [k1]] at e
          simp only [cond_true] at e
          obtain rfl := Option.some.inj e
          exact ⟨rfl, fun l' h => by cases h⟩
    have bindA : ∀ p : Arg, unk a' = true → some (bindF big l a'.name b') = some r →
        L51_11041316 true a'.kind a'.name (a'.args.map Ty.enc) b'.kind b'.name (b'.args.map Ty.enc) (p, [.vec (l.map eB)]) = some (encR r) ∧ ∀ l', r = .ok l' → OkL l' := fun p hu e => by
      rw [e51_11041316]
      simp only [cond_true, ty_eta, ov1]
      obtain rfl := Option.some.inj e
      obtain ⟨eb, qb⟩ := unk_name hu
      rw [v82 hW hl ho qb okb hib]
      obtain ⟨zs, c, c1, c2⟩ := encR_T (bindF big l a'.name b')
      rw [c1]
      simp only [Option.bind_some, retT_tup4, fits_tup4, val_tup4, cond_true]
      exact ⟨rfl, fun l' h => bindF_okl ho okb h⟩
    cases hua : unk a' with
    | false =>
      simp only [hua, cond_false, Bool.false_and] at e ⊢
      rw [e51_110416]
      simp only [cond_false, ty_eta]
      rw [v81 a', hua]
      simp only [Option.bind_some, retPV_pv, fits_bool, toBool_bool, cond_true, cond_false]
      exact step3 _ e
    | true =>
      cases hub : unk b' with
      | false =>
        simp only [hua, hub, cond_true, cond_false, Bool.false_and, Bool.and_false, Bool.not_false, Bool.true_or, Bool.and_self] at e ⊢
        rw [e51_110416]
        simp only [cond_false, ty_eta]
        rw [v81 a', hua, v81 b', hub]
        simp only [Option.bind_some, retPV_pv, fits_bool, toBool_bool, cond_true, Bool.not_false]
        exact bindA _ hua e
      | true =>
        simp only [hua, hub, cond_true, Bool.true_and, Bool.not_true, Bool.false_or] at e ⊢
        rw [e51_110416]
        cases hnm : a'.name == b'.name with
        | true =>
          rw [hnm] at e
          simp only [cond_true] at e ⊢
          obtain rfl := Option.some.inj e
          exact ⟨rfl, fun l' h => by cases h; exact ho⟩
        | false =>
          rw [hnm] at e
          simp only [cond_false, ty_eta] at e ⊢
          rw [v81 a', hua, v81 b', hub]
          simp only [Option.bind_some, retPV_pv, fits_bool, toBool_bool, cond_true, Bool.not_true, cond_false]
          cases hg : gtS a'.name b'.name with
          | true =>
            rw [hg] at e
            simp only [cond_true] at e
            rw [show (!(Op.bytesLess a'.name b'.name || false)) = true from by rw [gtS, hnm] at hg; exact hg]
            exact bindA _ hua e
          | false =>
            rw [hg] at e
            simp only [cond_false] at e
            rw [show (!(Op.bytesLess a'.name b'.name || false)) = false from by rw [gtS, hnm] at hg; exact hg]
            refine step3 _ ?_
            rw [hub]
            exact e
end Go.AL.S4.Un
