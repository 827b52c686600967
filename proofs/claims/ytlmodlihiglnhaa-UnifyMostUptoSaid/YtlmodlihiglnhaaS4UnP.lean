/- Types made alike: binding a name, one pair after another. -/
import Derived.Test.YtlmodlihiglnhaaS4UnA
set_option linter.unusedVariables false
set_option linter.unusedSimpArgs false
namespace Go.AL.S4.Un
open Go Go.AL Go.AL.S4

def tup4 (xs : List PV) (e : Int) : Out := (.tup 4 xs [.int .i64 e], [])
def encR : Res → Out
  | .ok l => tup4 (l.map eB) 0
  | .bad => tup4 [] 12
  | .loop => tup4 [] 18
  | .large => tup4 [] 2
theorem retT_tup4 (xs : List PV) (e : Int) : retT (tup4 xs e) = some (4, xs, [.int .i64 e]) := nrfl rfl
theorem fits_tup4 (xs : List PV) (e : Int) : (Nat.beq (4, xs, [PV.int .i64 e]).1 4 && Sh.fitsL [Sh.int .i64] (4, xs, [PV.int .i64 e]).2.2 false) = true := nrfl rfl
theorem val_tup4 (e : Int) : ((PV.tup [.int .i64 e]).r 0).toInt = e := nrfl rfl
theorem rf1 (xs : List PV) : refFits [] [0] [.vec xs] = true := nrfl rfl
theorem ov1 (p : Arg) (xs : List PV) : Out.v (p, [.vec xs]) 0 = xs := nrfl rfl
def OkL (l : List Bd) : Prop := ∀ b, b ∈ l → Okt b.2

theorem all4f (l : List Bd) : headOk 4 (l.map eB) = true := by cases l <;> rfl
theorem v116 {l : List Bd} (hl : l.length ≤ 8 * BIG) : V 116 [.pv (.lst (l.map eB))] = some (.bld 4 (l.map eB), []) := by
  rw [e116]
  unfold cloneOut
  rw [all4f, show small 0 (l.map eB).length 64 = true from small_of (by simp only [BIG] at hl; simp; omega)]
  rfl

/-- One step of a binding: the new bond put into an old one. -/
noncomputable def stp (n : Str) (t : Ty) (b : Bd) : Bd := (b.1, ap (lk [(n, t)]) b.2)
theorem okl_one {n : Str} {t : Ty} (ht : Okt t) : OkL [(n, t)] := fun b hb => by rw [List.mem_singleton.1 hb]; exact ht
theorem l82 {m : List Bd} {n : Str} {t : Ty} (ht : Okt t) (hm : m.length ≤ 4 * BIG) (hok : OkL m) (l1 : List PV) (hl1 : l1 ++ ([.agg [.str n, .int .i64 t.kind, .str t.name, .lst (t.args.map Ty.enc)]] : List PV) = m.map eB) : ∀ (rest : List Bd) (k : Nat), m.drop k = rest →
    ((∀ b, b ∈ rest → big (stp n t b).2 = false) → L82_1111014v1 n t.kind t.name (t.args.map Ty.enc) l1 k (((m.take k).map (stp n t)).map eB) = some (tup4 ((m.map (stp n t)).map eB) 0)) ∧
    ((∃ b, b ∈ rest ∧ big (stp n t b).2 = true) → L82_1111014v1 n t.kind t.name (t.args.map Ty.enc) l1 k (((m.take k).map (stp n t)).map eB) = some (tup4 [] 2))
  | [], k, h => by
    refine ⟨fun _ => ?_, fun ⟨b, hb, _⟩ => by cases hb⟩
    have hk : m.length ≤ k := by have := congrArg List.length h; simp at this; omega
    rw [e82_1111014v1, hl1, endK_map h, List.take_of_length_le hk]
    rfl
  | b :: rest, k, h => by
    have A := atK_map (f := eB) h (by simp only [BIG] at hm; simp [maxLen]; omega)
    have A' := atK h (by simp only [BIG] at hm; simp [maxLen]; omega)
    have ih := l82 ht hm hok l1 hl1 rest (k + 1) A'.drop
    have hb := hok b (mem_drop h)
    have hv := v20p (l := [(n, t)]) (by simp [BIG]) (okl_one ht) hb
    have hs : small ((((m.take k).map (stp n t)).map eB).length) 1 64 = true := small_of (by simp only [BIG] at hm; simp; omega)
    obtain ⟨sn, sd, hz⟩ := v117 (okt_ap (okl_one ht) hb)
    have hbig := big_of hz
    have e0 : L82_1111014v1 n t.kind t.name (t.args.map Ty.enc) l1 k (((m.take k).map (stp n t)).map eB) = bif big (stp n t b).2 then some (tup4 [] 2) else L82_1111014v1 n t.kind t.name (t.args.map Ty.enc) l1 ((k + 1 : Nat) : Int) (((m.take (k + 1)).map (stp n t)).map eB) := by
      rw [e82_1111014v1, hl1]
      simp only [A.lt, A.ge, A.get, A.next, cond_true, Option.bind_some, Bool.and_self]
      simp only [eB_fits, eB_0, eB_1, eB_2, eB_3, ty_eta, cond_true, hs, eB_mk]
      rw [show ([eB (n, t)] : List PV) = [(n, t)].map eB from rfl, hv]
      simp only [Option.bind_some, retPV_pv, ty_fits, cond_true, ty_k, ty_n, ty_a, ty_eta]
      rw [hz]
      simp only [Option.bind_some, retPV_pv, fits_ii, r0, r1, toInt_int, cond_true]
      rw [show big (stp n t b).2 = _ from hbig, take_succ' h, List.map_append, List.map_append]
      cases decide (sn > 400) <;> cases decide (sd > 40) <;> rfl
    rw [e0]
    constructor
    · intro hf
      rw [hf b (by simp)]
      exact ih.1 fun c hc => hf c (by simp [hc])
    · rintro ⟨c, hc, hcb⟩
      cases hbb : big (stp n t b).2 with
      | true => rfl
      | false =>
        simp only [cond_false]
        rcases List.mem_cons.1 hc with rfl | hc
        · rw [hbb] at hcb; cases hcb
        · exact ih.2 ⟨c, hc, hcb⟩
theorem v82 {W : List Str} (hW : W.length ≤ BIG) {l : List Bd} (hl : l.length ≤ BIG) (hok : OkL l) {n : Str} (hq : qn n) {t : Ty} (ht : Okt t) (hi : Inn W t) : V 82 [.pv (.lst (l.map eB)), .pv (.str n), .pv t.enc] = some (encR (bindF big l n t)) := by
  obtain ⟨r, g1, g2, g3⟩ := v24 (W := W) (by omega) ht (fun n h => hi.2 n h.occ.1 h.occ.2)
  have hrl : r.length ≤ W.length := nodup_sub r W g2 fun x hx => by have := (g3 x).1 hx; exact hi.2 x this.occ.1 this.occ.2
  have h0 := e82 (l.map eB) n t.kind t.name (t.args.map Ty.enc)
  rw [ty_eta] at h0
  rw [h0, g1]
  simp only [Option.bind_some, retPV_bld, cond_true]
  rw [show Sh.lst.fits (PV.lst (r.map PV.str)) = true from rfl, show (PV.lst (r.map PV.str)).toLst = r.map PV.str from rfl, v89 (by simp only [BIG] at hW; simp [maxLen]; omega)]
  simp only [Option.bind_some, retPV_pv, fits_bool, toBool_bool, cond_true]
  have hocc : has r n = true ↔ Occ n t := by
    unfold has
    rw [decide_eq_true_iff, g3 n]
    exact ⟨fun h => h.occ.1, fun h => OccU.of hi.1 h hq⟩
  unfold bindF
  cases hh : has r n with
  | true =>
    rw [if_pos (hocc.1 hh)]
    rfl
  | false =>
    rw [if_neg (fun h => by rw [hocc.2 h] at hh; cases hh)]
    simp only [cond_false]
    rw [v116 (by simp only [BIG] at hl ⊢; omega)]
    have hs : small ((l.map eB).length) 1 64 = true := small_of (by simp only [BIG] at hl; simp; omega)
    simp only [Option.bind_some, retB_bld, hs, cond_true]
    have hm : (l ++ [(n, t)]).length ≤ 4 * BIG := by simp only [BIG] at hl ⊢; simp; omega
    have hokm : OkL (l ++ [(n, t)]) := fun b hb => by
      rcases List.mem_append.1 hb with h | h
      · exact hok b h
      · rw [List.mem_singleton.1 h]; exact ht
    have hl1 : l.map eB ++ ([.agg [.str n, .int .i64 t.kind, .str t.name, .lst (t.args.map Ty.enc)]] : List PV) = (l ++ [(n, t)]).map eB := by simp [eB]
    -- the first one
    have e0 : L82_1111014 n t.kind t.name (t.args.map Ty.enc) (l.map eB) = L82_1111014v1 n t.kind t.name (t.args.map Ty.enc) (l.map eB) (0 : Nat) ((((l ++ [(n, t)]).take 0).map (stp n t)).map eB) := by
      rw [e82_1111014, e82_1111014v1, hl1]
      rfl
    rw [e0]
    have := l82 ht hm hokm (l.map eB) hl1 (l ++ [(n, t)]) 0 rfl
    by_cases hb : ∃ b, b ∈ ext l n t ∧ big b.2 = true
    · rw [if_pos hb]
      obtain ⟨b, hb1, hb2⟩ := hb
      obtain ⟨c, hc, rfl⟩ := List.mem_map.1 hb1
      exact this.2 ⟨c, hc, hb2⟩
    · rw [if_neg hb]
      refine this.1 fun c hc => ?_
      cases hcb : big (stp n t c).2 with
      | false => rfl
      | true => exact absurd ⟨_, List.mem_map.2 ⟨c, hc, rfl⟩, hcb⟩ hb
theorem bindF_okl {l l' : List Bd} (hok : OkL l) {n : Str} {t : Ty} (ht : Okt t) (h : bindF big l n t = .ok l') : OkL l' := by
  unfold bindF at h
  split at h
  · cases h
  · split at h
    · cases h
    · simp only [Res.ok.injEq] at h
      subst h
      intro b hb
      obtain ⟨c, hc, rfl⟩ := ext_mem hb
      refine okt_ap (okl_one ht) ?_
      rcases hc with hc | rfl
      · exact hok c hc
      · exact ht
end Go.AL.S4.Un
