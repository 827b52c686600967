/- The law: how often a name is used. -/
import Derived.Test.YtlmodlihiglnhaaDoorS9Uses
set_option linter.unusedVariables false
set_option linter.unusedSimpArgs false
set_option maxRecDepth 20000
namespace Go.AL.S9.Fr
open Go Go.AL Go.AL.S9

def ifE (e x y : Ex) : Ex := .mk 7 0 [] [] [] [e, x, y] [] 0
def unE : Ex := .mk 1 0 [] [] [] [] [] 0
def hidE (nm : Str) (e : Ex) : Ex := .mk 6 0 nm [] [] [unE, e] [] 0
theorem bk_if (e x y : Ex) : bk (ifE e x y).enc ≤ bk e.enc + bk x.enc + bk y.enc + 12 := by
  rw [ex_enc]
  simp only [ifE, Ex.kind, Ex.num, Ex.text, Ex.names, Ex.types, Ex.args, Ex.arms, Ex.at_, bk, bkL, List.map_cons, List.map_nil, List.length_nil]
  omega
theorem bk_hid (nm : Str) (e : Ex) : bk (hidE nm e).enc ≤ bk e.enc + nm.length + 20 := by
  rw [ex_enc]
  simp only [hidE, Ex.kind, Ex.num, Ex.text, Ex.names, Ex.types, Ex.args, Ex.arms, Ex.at_, bk, bkL, List.map_cons, List.map_nil, List.length_nil]
  rw [ex_enc unE]
  simp only [unE, Ex.kind, Ex.num, Ex.text, Ex.names, Ex.types, Ex.args, Ex.arms, Ex.at_, bk, bkL, List.map_cons, List.map_nil, List.length_nil]
  omega
theorem okTs_nil : OkTs [] := ⟨[], rfl, by decide, by decide, fun t h => by cases h⟩
theorem okx_if {e x y : Ex} (he : Okx e) (hx : Okx x) (hy : Okx y) : Okx (ifE e x y) :=
  .mk (Nat.zero_le _) okTs_nil (show 3 ≤ maxLen by decide) (Nat.zero_le _) (fun a ha => by
    have ha' : a ∈ [e, x, y] := ha
    simp only [List.mem_cons, List.not_mem_nil, or_false] at ha'
    rcases ha' with rfl | rfl | rfl <;> assumption) (fun x hx => by cases hx) (fun x hx => by cases hx)
theorem rt_if {e x y : Ex} (h : Rt (ifE e x y)) : Rt e ∧ Rt x ∧ Rt y :=
  ⟨rt_sub h e (by simp [ifE, Ex.args]), rt_sub h x (by simp [ifE, Ex.args]), rt_sub h y (by simp [ifE, Ex.args])⟩
theorem rt_un : Rt unE := .mk rfl (.inl rfl) (fun a ha => by cases ha) (fun x hx => by cases hx)
theorem rt_hid {nm : Str} {e : Ex} (h : Rt e) : Rt (hidE nm e) :=
  .mk rfl (.inl rfl) (fun a ha => by
    have ha' : a ∈ [unE, e] := ha
    simp only [List.mem_cons, List.not_mem_nil, or_false] at ha'
    rcases ha' with rfl | rfl
    · exact rt_un
    · exact h) (fun x hx => by cases hx)
theorem fv_un (nm : Str) : ¬ Fv unE nm := by
  rw [not_fv (e := unE) (show (1 : Int) ≠ 5 by decide)]
  exact ⟨fun p hp => (by cases hp), fun p hp => (by cases hp)⟩
theorem fv_hid (nm : Str) (e : Ex) : ¬ Fv (hidE nm e) nm := by
  rw [not_fv (e := hidE nm e) (show (6 : Int) ≠ 5 by decide)]
  refine ⟨fun p hp => ?_, fun p hp => by cases hp⟩
  have hp' : p ∈ [(unE, sc (hidE nm e) 0), (e, sc (hidE nm e) 1)] := hp
  simp only [List.mem_cons, List.not_mem_nil, or_false] at hp'
  rcases hp' with rfl | rfl
  · exact fun h => fv_un nm h.1
  · intro h
    apply h.2
    have : sc (hidE nm e) 1 = [nm] := rfl
    rw [this]; simp
theorem v24_if {nm : Str} {e x y : Ex} {a b c : Int} (he : V 24 [.pv (.str nm), .pv e.enc] = some (.pv (.int .i64 a), [])) (hx : V 24 [.pv (.str nm), .pv x.enc] = some (.pv (.int .i64 b), [])) (hy : V 24 [.pv (.str nm), .pv y.enc] = some (.pv (.int .i64 c), [])) :
    V 24 [.pv (.str nm), .pv (ifE e x y).enc] = some (.pv (.int .i64 (IntKind.i64.wrap (a + (bif decide (c > b) then c else b)))), []) := by
  have q0 : ([e, x, y].map Ex.enc)[(0 : Int).toNat]? = some e.enc := rfl
  have q1 : ([e, x, y].map Ex.enc)[(1 : Int).toNat]? = some x.enc := rfl
  have q2 : ([e, x, y].map Ex.enc)[(2 : Int).toNat]? = some y.enc := rfl
  rw [ex_enc, e24, e24_11014]
  show (bif false then _ else _) = _
  simp only [cond_false, ifE, Ex.kind, Ex.args]
  rw [show ((7 : Int) == 5) = false from rfl, show ((7 : Int) == 10) = false from rfl, show ((7 : Int) == 7) = true from rfl, q0]
  simp only [cond_true, cond_false, Option.bind_some, ex_fits, ex_eta, he, retPV_pv, fits_i64, toInt_int]
  rw [q1]
  simp only [cond_true, cond_false, Option.bind_some, ex_fits, ex_eta, hx, retPV_pv, fits_i64, toInt_int]
  rw [q2]
  simp only [cond_true, cond_false, Option.bind_some, ex_fits, ex_eta, hy, retPV_pv, fits_i64, toInt_int]
theorem v24_x : V 24 [.pv (.str [120]), .pv (.agg [.int .i64 5, .int .i64 0, .str [120], .lst [], .lst [], .lst [], .lst [], .int .i64 0])] = some (.pv (.int .i64 1), []) := (V_A pa 24 _).le 60 _ (by kernel_rfl)
theorem law7 {e x y : Ex} {nm : Str} (he : Okx e) (hx : Okx x) (hy : Okx y) (hb : bk e.enc + bk x.enc + bk y.enc + nm.length ≤ 1048576) : V 7 [.pv e.enc, .pv x.enc, .pv y.enc, .pv (.str nm)] = some (.pv (.bool true), []) := by
  have h1 := bk_if e x y
  have h2 := bk_hid nm e
  have hB : bk (ifE e x y).enc ≤ BIG := by simp only [BIG]; omega
  obtain ⟨v, hv, hR⟩ := right (okx_if he hx hy) hB
  have ev := e7 e.kind e.num e.text (e.names.map .str) e.types (e.args.map Ex.enc) (e.arms.map eArm) e.at_ x.kind x.num x.text (x.names.map .str) x.types (x.args.map Ex.enc) (x.arms.map eArm) x.at_ y.kind y.num y.text (y.names.map .str) y.types (y.args.map Ex.enc) (y.arms.map eArm) y.at_ nm
  rw [← ex_enc e, ← ex_enc x, ← ex_enc y] at ev
  have hv' : V 23 [.pv (.agg [.str [120], .int .i64 0, .lst [], .lst [], .lst [], .lst [], .lst [], .lst [.agg [.str [88], .lst [], .lst [], .int .i64 1, .str [], .lst [], .int .i64 7, .int .i64 0, .str [], .lst [], .lst [], .lst [e.enc, x.enc, y.enc], .lst [], .int .i64 0]]])] = some (.pv (.int .i64 v), []) := hv
  rw [ev, hv']
  simp only [Option.bind_some, retPV_pv, fits_i64, cond_true, toInt_int]
  cases hv0 : v != 0 with
  | true => rfl
  | false =>
    have v0 : v = 0 := by simpa using hv0
    obtain ⟨re, rx, ry⟩ := rt_if (hR v0)
    have be : bk e.enc ≤ BIG := by simp only [BIG]; omega
    have bx : bk x.enc ≤ BIG := by simp only [BIG]; omega
    have bY : bk y.enc ≤ BIG := by simp only [BIG]; omega
    obtain ⟨a, a1, a2, a3, a4⟩ := v24 nm re be
    obtain ⟨b, b1, _⟩ := v24 nm rx bx
    obtain ⟨c, c1, _⟩ := v24 nm ry bY
    obtain ⟨d, d1, d2, d3, d4⟩ := v24 nm (rt_hid (nm := nm) re) (show bk (hidE nm e).enc ≤ BIG by simp only [BIG]; omega)
    have d0 : d = 0 := d4.2 (fv_hid nm e)
    subst d0
    have hif := v24_if a1 b1 c1
    have hif' : V 24 [.pv (.str nm), .pv (.agg [.int .i64 7, .int .i64 0, .str [], .lst [], .lst [], .lst [e.enc, x.enc, y.enc], .lst [], .int .i64 0])] = _ := hif
    have d1' : V 24 [.pv (.str nm), .pv (.agg [.int .i64 6, .int .i64 0, .str nm, .lst [], .lst [], .lst [.agg [.int .i64 1, .int .i64 0, .str [], .lst [], .lst [], .lst [], .lst [], .int .i64 0], e.enc], .lst [], .int .i64 0])] = _ := d1
    obtain ⟨r, r1, r2, r3⟩ := v26 re be
    have r25 := v25 (xs := r) (s := nm) (len_max (by omega))
    have hfa : (a == 0) = !(has r nm) := by
      unfold has
      by_cases hm : nm ∈ r
      · rw [decide_eq_true hm]
        have : a ≠ 0 := fun h => (a4.1 h) ((r3 nm).1 hm)
        rw [beq_eq_false_iff_ne.2 this]; rfl
      · rw [decide_eq_false hm]
        have : a = 0 := a4.2 fun h => hm ((r3 nm).2 h)
        rw [this]; rfl
    simp only [cond_false, a1, hif', Option.bind_some, retPV_pv, fits_i64, cond_true, toInt_int]
    rw [decide_eq_true (show a ≥ 0 by omega), r1]
    simp only [cond_true, Option.bind_some, fits_lstS, toLst_lst, r25, retPV_pv, fits_bool, toBool_bool, hfa, beq_self_eq_true]
    rw [d1']
    simp only [Option.bind_some, retPV_pv, fits_i64, cond_true, toInt_int, b1, c1, beq_self_eq_true, v24_x]
end Go.AL.S9.Fr
