/- All operations; regions. -/
import Derived.Test.YtlmodlihiglnhaaALxc
set_option linter.unusedVariables false
set_option linter.unusedSimpArgs false
namespace Go.AL
open Go.RowKit

section
variable {P : Program} {E : Env} {f : FuncId} {av : Av} {ty : TypeId} {s : St} {ρ : Type}

theorem appendAV_sound (hT : TOk P) {c : Call} {t t' : TypeId} {y z : Operand} {a b : AV} (hc : c.callee = .builtin .append) (ha : c.args.toList = [y, z]) (hty : c.argTypes.toList = [t, t']) (htt : Nat.beq t t' = true) (hy : av y = some a) (hz : av z = some b)
    {K : AV → St → Option ρ} {r : ρ} (h : appendAV P t a b s K = some r) : ∃ v s', K v s' = some r ∧ s'.bx = s.bx ∧ s'.vc = s.vc ∧ ∀ s2 : St, s2.tp = s.tp → Sound2 P (.call c) ty av s2 v { s2 with tp := s'.tp } := by
  have hab := list2 ha
  have htb := list2 hty
  obtain rfl := beq_eq htt
  unfold appendAV at h
  split at h
  · cases h
  rename_i e he
  split at h
  · rename_i ys i v xs z0 hl hz0
    split at h
    · rename_i cur sz hi
      replace h := bif_some h; obtain ⟨h1, h⟩ := h
      replace h := bif_some h; obtain ⟨h2, h⟩ := h
      replace h := bif_some h; obtain ⟨h3, h⟩ := h
      simp only [Bool.and_eq_true] at h1
      have e1 := beq_eq h1.1.1.1
      have e2 := beq_eq h1.1.1.2
      subst e1
      refine ⟨_, _, h, rfl, rfl, fun s2 hs2 => ?_⟩
      have := s_append (ty := ty) (s := s2) hT hc hab htb he hz0 hy hz hl (by rw [hs2]; exact hi) e2 (Nat.le_of_ble_eq_true h1.1.2) (blt_lt h1.2) h2 (by simpa [small] using h3)
      rw [hs2] at this
      exact this
    · cases h
  · rename_i ys z0 hl hz0
    replace h := bif_some h; obtain ⟨h1, h⟩ := h
    replace h := bif_some h; obtain ⟨h2, h⟩ := h
    replace h := bif_some h; obtain ⟨h3, h⟩ := h
    simp only [Bool.and_eq_true] at h1
    refine ⟨_, _, h, rfl, rfl, fun s2 hs2 => ?_⟩
    have := s_append_nil (ty := ty) (s := s2) hT hc hab htb he hz0 hy hz hl (Nat.le_of_ble_eq_true h1.1.1) (blt_lt h1.1.2) (blt_lt h1.2) h2 (by simpa [small] using h3)
    rw [hs2] at this
    exact this
  · cases h

theorem effS_sound (hT : TOk P) (hF : FOk P) (hc : CallOk P E.call) {x : AS} {op : Op} {dst : Option Tmp} {K : AV → St → Option ρ} {r : ρ} (h : effS P E f x op ty dst K = some r) : ∃ v s', K v s' = some r ∧ Sound2 P op ty (aval x) x.s v s' := by
  unfold effS at h
  split at h
  · -- alloc
    split at h
    · rename_i cs hz; exact ⟨_, _, h, s_alloc hT hz⟩
    · cases h
  · -- box
    split at h
    · rename_i v hv
      split at h
      · rename_i cs hcs
        replace h := bif_some h; obtain ⟨h1, h⟩ := h
        simp only [Bool.and_eq_true] at h1
        exact ⟨_, _, h, s_box hv hcs h1.2⟩
      · cases h
    · cases h
  · -- build
    obtain ⟨v, g1, g2⟩ := s_buildAV (ty := ty) hT h
    exact ⟨v, _, g1, g2 x.s⟩
  · -- load
    split at h
    · rename_i a ha
      cases hk : aggAt E f dst with
      | true =>
        rw [hk] at h
        simp only [cond_true, cond_false] at h
        obtain ⟨v, g1, g2⟩ := loadAgg_sound (ty := ty) hT ha h
        exact ⟨v, _, g1, g2.two⟩
      | false =>
        rw [hk] at h
        simp only [cond_true, cond_false] at h
        obtain ⟨v, g1, g2⟩ := loadAV_sound (ty := ty) hT ha h
        exact ⟨v, _, g1, g2.two⟩
    · cases h
  · -- store
    split at h
    · rename_i a v ha hv
      obtain ⟨s', g1, g2⟩ := storeAV_sound (ty := ty) hT ha hv h
      exact ⟨_, s', g1, g2⟩
    · cases h
  · -- makeSlice
    split at h
    · rename_i e n m he hn hm
      split at h
      · rename_i z hz
        replace h := bif_some h; obtain ⟨h1, h⟩ := h
        simp only [Bool.and_eq_true, decide_eq_true_eq] at h1
        obtain ⟨⟨⟨⟨h1, h2⟩, h3⟩, h4⟩, h5⟩ := h1
        obtain ⟨g1, g2⟩ := s_makeSlice (ty := ty) (s := x.s) hT he hz hn hm h1 h2 h3 (Nat.le_of_ble_eq_true h4) (blt_lt h5)
        split at h
        · rename_i d
          cases hk : Nat.beq (E.kind f d) 1 with
          | true => rw [hk] at h; exact ⟨_, _, h, g2⟩
          | false => rw [hk] at h; exact ⟨_, _, h, g1⟩
        · cases h
      · cases h
    · cases h
  · -- buildSlice
    split at h
    · rename_i e he
      split at h
      · rename_i z ps hz hps
        replace h := bif_some h; obtain ⟨h1, h⟩ := h
        simp only [Bool.and_eq_true] at h1
        split at h
        · rename_i xs d hxs
          obtain ⟨g1, g2⟩ := s_buildVec (ty := ty) (s := x.s) hT he hz hps (Nat.le_of_ble_eq_true h1.1) (blt_lt h1.2) hxs
          cases hk : Nat.beq (E.kind f d) 2 with
          | true => rw [hk] at h; exact ⟨_, _, h, g1⟩
          | false => rw [hk] at h; exact ⟨_, _, h, g2⟩
        · cases h
      · cases h
    · cases h
  · -- indexAddr
    split at h
    · rename_i e j ver i he hj hi
      split at h
      · rename_i cur sz xs hv
        replace h := bif_some h; obtain ⟨h1, h⟩ := h
        replace h := bif_some h; obtain ⟨h2, h⟩ := h
        simp only [Bool.and_eq_true, decide_eq_true_eq] at h1 h2
        have e1 := beq_eq h1.1
        subst e1
        exact ⟨_, _, h, s_index_vec hT he hj hi hv (beq_eq h1.2) h2.1 h2.2⟩
      · cases h
    · cases h
  · -- slice
    split at h
    · rename_i e j ver lo hi he hj hlo hhi
      split at h
      · rename_i cur sz xs hv
        replace h := bif_some h; obtain ⟨h1, h⟩ := h
        simp only [Bool.and_eq_true] at h1
        have e1 := beq_eq h1.1
        subst e1
        obtain ⟨g1, g2⟩ := sliceL_eq h
        exact ⟨_, _, g2, s_slice_vec hT he hj hlo hhi hv (beq_eq h1.2) g1⟩
      · cases h
    · cases h
  · -- makeFunc
    replace h := bif_some h; obtain ⟨h1, h⟩ := h
    split at h
    · rename_i l hl
      split at h
      · rename_i ps s' hps
        exact ⟨_, _, h, s_makeFunc2 h1 hl hps⟩
      · cases h
    · cases h
  · -- call
    rename_i c
    split at h
    · -- append
      rename_i hcal
      split at h
      · rename_i a b t t' ha ht
        replace h := bif_some h; obtain ⟨h1, h⟩ := h
        split at h
        · rename_i j ver b' ha' hb'
          exact appendVec_sound hT hcal ha ht h1 ha' hb' h
        · rename_i a' b' _ ha' hb'
          obtain ⟨v, s', g1, g2, g3, g4⟩ := appendAV_sound (ty := ty) hT hcal ha ht h1 ha' hb' h
          refine ⟨v, s', g1, ?_⟩
          have := g4 x.s rfl
          obtain ⟨bx, vc, tp⟩ := s'
          simp only at g2 g3 this
          subst g2; subst g3
          exact this
        · cases h
      · cases h
    · -- len
      rename_i hcal
      split at h
      · rename_i a t ha ht
        split at h
        · rename_i e j ver hu hv
          split at h
          · rename_i cur o1 xs hj
            replace h := bif_some h; obtain ⟨h1, h⟩ := h
            have e1 := beq_eq h1
            subst e1
            exact ⟨_, _, h, s_len_vec hcal (list1 ha) (by rw [list1 ht]; rfl) hu hv hj⟩
          · cases h
        · cases h
      · cases h
    · cases h
    · cases h
    · -- a function
      rename_i g hcal
      split at h
      · rename_i l hl
        cases hlend : lendAt E f dst with
        | true =>
        rw [hlend] at h
        simp only [cond_true] at h
        split at h
        · rename_i ps s1 d hp
          split at h
          · rename_i e _ _
            replace h := bind_some h; obtain ⟨out, ho, h⟩ := h
            replace h := bind_some h; obtain ⟨xs, hx, h⟩ := h
            replace h := bif_some h; obtain ⟨hfit, h⟩ := h
            simp only [Bool.and_eq_true, Bool.not_eq_true'] at hfit
            exact ⟨_, _, h, s_lend1 hF hc hcal hl hp ho hx hfit.1.1 (fun l e => by have := hfit.1.2; rw [e] at this; cases this) hfit.2⟩
          · replace h := bind_some h; obtain ⟨out, ho, h⟩ := h
            replace h := bind_some h; obtain ⟨p, hp', h⟩ := h
            replace h := bif_some h; obtain ⟨hfit, h⟩ := h
            simp only [Bool.and_eq_true] at hfit
            rw [Sh.view_eq _ _ hfit.2] at h
            exact ⟨_, _, h, s_lend0 hF hc hcal hl hp ho hp' hfit.1 hfit.2⟩
        · cases h
        | false =>
        rw [hlend] at h
        simp only [cond_false] at h
        split at h
        · rename_i as ids s1 hp
          replace h := bif_some h; obtain ⟨hn, h⟩ := h
          split at h
          · rename_i d
            split at h
            · rename_i e _ _
              replace h := bind_some h; obtain ⟨out, ho, h⟩ := h
              replace h := bind_some h; obtain ⟨xs, hx, h⟩ := h
              exact ⟨_, _, h, s_call2 hF hc hcal hl hp hn ho hx⟩
            · rename_i e _ _
              replace h := bind_some h; obtain ⟨out, ho, h⟩ := h
              replace h := bind_some h; obtain ⟨xs, hx, h⟩ := h
              exact ⟨_, _, h, s_call1 hF hc hcal hl hp hn ho hx⟩
            · replace h := bind_some h; obtain ⟨out, ho, h⟩ := h
              replace h := bind_some h; obtain ⟨p, hp', h⟩ := h
              replace h := bif_some h; obtain ⟨hfit, h⟩ := h
              rw [Sh.view_eq _ _ hfit] at h
              exact ⟨_, _, h, s_call0 hF hc hcal hl hp hn ho hp'⟩
          · cases h
        · cases h
      · cases h
    · cases h
  · cases h

variable {F : Nat → Prop} {w0 : World} {M0 : Mem} {G : Gh} {w : World} {x : AS} {a : Act}

theorem eff_sound (hT : TOk P) (hF : FOk P) (hc : CallOk P E.call) {o : Oper} {K : AV → St → Option ρ} {r : ρ} (h : eff P E f o x K = some r) (hR : R F w0 M0 G x a w) :
    ∃ v s', K v s' = some r ∧ OpTo P o a w fun u w' => ∃ G', SRel F w0 M0 G' s' w' ∧ Ext G x.s G' s' ∧ ARel G' s' v u := by
  unfold eff at h
  have hA : Avs (aval x) G x.s a := fun y b hy => aval_rel hR.T hy
  cases hp : plain E f o with
  | true =>
    rw [hp] at h
    obtain ⟨v, g1, g2⟩ := effP_sound (dst := o.dst) hT hF hc h
    exact ⟨v, _, g1, g2 F w0 M0 G x.s a w o hR.S hA rfl rfl⟩
  | false =>
    rw [hp] at h
    obtain ⟨v, s', g1, g2⟩ := effS_sound hT hF hc h
    exact ⟨v, s', g1, g2 F w0 M0 G a w o hR.S hA rfl rfl⟩

theorem wanted_none {o : Oper} (h : o.guard = none) (f : Nat → Option Bool) : Region.wanted o f = true := by simp [Region.wanted, h]
theorem wanted_some {o : Oper} {j : Nat} {want : Bool} (h : o.guard = some (j, want)) (f : Nat → Option Bool) : Region.wanted o f = (f j == some want) := by simp [Region.wanted, h]

theorem yielded_of {all : Array Oper} {tm : Array Value} {j d : Nat} (h : (all[j]?).bind (·.dst) = some d) (v : Value) (hv : tm[d]? = some v) : yielded all tm j = match v with | .bool b => some b | _ => none := by
  unfold yielded
  rw [h]
  simp only [Option.bind_some, hv]
  cases v <;> rfl

theorem R.at (hR : R F w0 M0 G x a w) {d : Nat} {b : AV} (h : x.t[d]? = some b) : ∃ v, a.tmps[d]? = some v ∧ ARel G x.s b v := by
  have hl : d < a.tmps.size := by rw [hR.T.1]; exact (List.getElem?_eq_some_iff.1 h).1
  exact ⟨_, Array.getElem?_eq_getElem hl, hR.T.2 d b _ h (Array.getElem?_eq_getElem hl)⟩

theorem R.refine (hR : R F w0 M0 G x a w) {d : Nat} {v : Value} {b : AV} (hv : a.tmps[d]? = some v) (hb : ARel G x.s b v) : R F w0 M0 G (x.put (some d) b) a w := by
  refine ⟨hR.S, ⟨by simpa [AS.put] using hR.T.1, fun i c u h1 h2 => ?_⟩, hR.D⟩
  simp only [AS.put] at h1
  by_cases hd : d = i
  · subst hd
    have hl : d < x.t.length := by rw [← hR.T.1]; exact (Array.getElem?_eq_some_iff.1 hv).1
    rw [List.getElem?_set_self hl] at h1
    obtain rfl := Option.some.inj h1
    rw [hv] at h2
    obtain rfl := Option.some.inj h2
    exact hb
  · rw [List.getElem?_set_ne hd] at h1
    exact hR.T.2 i c u h1 h2

theorem R.skip (hR : R F w0 M0 G x a w) (dst : Option Tmp) : R F w0 M0 G (x.put dst .undef) (a.put dst undef) w :=
  R.put hR hR.S (Ext.refl _ _) dst (b := .undef) (v := undef) rfl

theorem effs_sound (hT : TOk P) (hF : FOk P) (hc : CallOk P E.call) {all : Array Oper} {Q : Exit → Act → World → Prop} : ∀ {ops : List Oper} {x : AS} {K : AS → Option ρ} {r : ρ} {G : Gh} {a : Act} {w : World}, effs P E f all ops x K = some r → R F w0 M0 G x a w →
    (∀ y G a w, K y = some r → R F w0 M0 G y a w → Q .normal a w) → wpList P all Q ops a w
  | [], x, K, r, G, a, w, h, hR, hK => hK x G a w h hR
  | o :: rest, x, K, r, G, a, w, h, hR, hK => by
    have go : ∀ {x' : AS}, R F w0 M0 G x' a w → eff P E f o x' (fun v s => effs P E f all rest ({ x' with s := s }.put o.dst v) K) = some r → Region.wanted o (yielded all a.tmps) = true → wpList P all Q (o :: rest) a w := by
      intro x' hR' h' hw
      obtain ⟨v, s', g1, g2⟩ := eff_sound hT hF hc h' hR'
      unfold wpList
      rw [if_pos hw]
      exact .inl (g2 _ _ fun u w' ⟨G', k1, k2, k3⟩ => effs_sound hT hF hc g1 (R.put hR' k1 k2 o.dst k3) hK)
    have no : ∀ {x' : AS}, R F w0 M0 G x' a w → effs P E f all rest (x'.put o.dst .undef) K = some r → Region.wanted o (yielded all a.tmps) = false → wpList P all Q (o :: rest) a w := by
      intro x' hR' h' hw
      unfold wpList
      rw [if_neg (by rw [hw]; simp)]
      exact effs_sound hT hF hc h' (hR'.skip o.dst) hK
    simp only [effs] at h
    split at h
    · rename_i hg
      exact go hR h (wanted_none hg _)
    · rename_i j want hg
      split at h
      · cases h
      · rename_i d hd
        split at h
        · rename_i g hx
          obtain ⟨v, hv, hb⟩ := hR.at hx
          cases rep_bool hb
          have hy := yielded_of hd _ hv
          simp only at hy
          have hr := hR.refine hv (b := .pv (.bool g)) hb
          cases g with
          | true =>
            simp only [cond_true] at h
            cases want with
            | true => exact go hr h (by rw [wanted_some hg, hy]; rfl)
            | false => exact no hr h (by rw [wanted_some hg, hy]; rfl)
          | false =>
            simp only [cond_false] at h
            cases want with
            | true => exact no hr h (by rw [wanted_some hg, hy]; rfl)
            | false => exact go hr h (by rw [wanted_some hg, hy]; rfl)
        · rename_i hx
          obtain ⟨v, hv, hb⟩ := hR.at hx
          have hb' : v = undef := hb
          subst hb'
          have hy := yielded_of hd _ hv
          exact no hR h (by rw [wanted_some hg, hy]; rfl)
        · cases h
end
end Go.AL
