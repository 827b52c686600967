/- Where scope.Expr finds nothing wrong, the free names are among those outside. -/
import Derived.Test.YtlmodlihiglnhaaDoorS10Prog
set_option linter.unusedVariables false
set_option linter.unusedSimpArgs false
set_option maxRecDepth 20000
namespace Go.AL.S10.Sc
open Go Go.AL Go.AL.S10 Go.AL.S10.Fr

def BoolR (o : Option Out) : Prop := ∃ b : Bool, o = some (.pv (.bool b), [])
theorem l70 {ns : List Str} (hl : ns.length ≤ maxLen) : ∀ (l : List Str) (k : Nat), ns.drop k = l → BoolR (L70_1014 (ns.map .str) k)
  | [], k, h => ⟨_, by rw [e70_1014, endK_map h]; rfl⟩
  | x :: l, k, h => by
    have A := atK_map (f := PV.str) h hl
    have A' := atK h hl
    obtain ⟨b, ih⟩ := l70 hl l (k + 1) A'.drop
    have h55 := v25 (xs := ns.take k) (s := x) (by simp; omega)
    have g : decide ((k : Int) ≤ ((ns.map PV.str).length : Int)) = true := by
      have := A'.ltn
      rw [decide_eq_true (by simp; omega)]
    have ht : (ns.map PV.str).take (k : Int).toNat = (ns.take k).map .str := by simp
    unfold BoolR
    rw [e70_1014]
    simp only [A.lt, A.get, A.next, cond_true, Option.bind_some, g, ht, A.ge, Bool.and_self]
    simp only [fits_strS, toStr_str, cond_true, headOk_str, h55, Option.bind_some, retPV_pv, fits_bool, toBool_bool]
    cases has (ns.take k) x with
    | true => exact ⟨_, rfl⟩
    | false => exact ⟨b, ih⟩
theorem v70 {ns : List Str} (hl : ns.length ≤ maxLen) : BoolR (V 70 [.pv (.lst (ns.map .str))]) := by
  rw [e70]; exact l70 hl ns 0 rfl
theorem l123 {args : List Pa} {p : Pq} (hl : args.length ≤ BIG) (hs : ∀ q, q ∈ args → BoolR (V 71 [.pv p.enc, .pv q.enc])) : ∀ (l : List Pa) (k : Nat), args.drop k = l → ∃ n : Int, L123_1014 (args.map Pa.enc) 102 [.ptr p.cells] k = some (.pv (.int .i64 n), [])
  | [], k, h => ⟨_, by rw [e123_1014, endK_map h]; rfl⟩
  | x :: l, k, h => by
    have A := atK_map (f := Pa.enc) h (len_max hl)
    have A' := atK h (len_max hl)
    obtain ⟨b, hv⟩ := hs x (mem_drop h)
    obtain ⟨n, ih⟩ := l123 hl hs l (k + 1) A'.drop
    have h99 : V 102 [.pv x.enc, .pv (.ptr p.cells)] = some (.pv (.bool (!b)), []) := by
      have e : V 102 [.pv x.enc, .pv (.ptr p.cells)] = ((V 71 [.pv p.enc, .pv x.enc]).bind retPV).bind fun r => (bif (Sh.bool).fits r then some (.pv (.bool (!r.toBool)), []) else none) := by
        have e := e102 x.kind x.num x.text (x.args.map Pa.enc) p.nm p.ver (p.us.map eUs) (p.ds.map eDt) (p.ts.map eTr) (p.is.map eIm) (p.fs.map eFu) (p.ac.map eAc)
        rw [← pa_enc x] at e
        exact e
      rw [e, hv]
      rfl
    rw [e123_1014]
    simp only [A.lt, A.ge, A.get, A.next, cond_true, Option.bind_some]
    simp only [pa_fits, pa_eta, cond_true, List.cons_append, List.nil_append, List.map_cons, List.map_nil, h99, Option.bind_some, retPV_pv, fits_bool, toBool_bool]
    cases b with
    | true => exact ⟨n, ih⟩
    | false => exact ⟨_, rfl⟩
theorem v71 {p : Pq} (hp : bk p.enc ≤ BIG) {q : Pa} (hb : bk q.enc ≤ BIG) : BoolR (V 71 [.pv p.enc, .pv q.enc]) := by
  revert hb
  refine Pa.ind (Q := fun q => bk q.enc ≤ BIG → BoolR (V 71 [.pv p.enc, .pv q.enc])) (fun q ih hb => ?_) q
  have h1 := bk_pa q
  have h2 := len_sumP q.args
  obtain ⟨n, hn⟩ := l123 (p := p) (args := q.args) (by omega) (fun a ha => ih a ha (by
    have : bk a.enc ≤ sumP q.args := le_sum (List.mem_map.2 ⟨a, ha, rfl⟩)
    omega)) q.args 0 rfl
  have h98 : V 101 [.pv (.lst (q.args.map Pa.enc)), .pv (.fn 102 [.ptr p.cells])] = some (.pv (.bool (decide (n ≥ 0))), []) := by
    rw [e101, e123]
    rw [show L123_1014 (q.args.map Pa.enc) 102 [.ptr p.cells] 0 = _ from hn]
    rfl
  obtain ⟨r, g1, g2⟩ := v68 hp
  have hL : BoolR (L71_116 p.nm p.ver (p.us.map eUs) (p.ds.map eDt) (p.ts.map eTr) (p.is.map eIm) (p.fs.map eFu) (p.ac.map eAc) q.kind q.num q.text (q.args.map Pa.enc)) := by
    rw [e71_116]
    unfold Pq.cells at h98
    rw [h98]
    exact ⟨_, rfl⟩
  have e := e71 p.nm p.ver (p.us.map eUs) (p.ds.map eDt) (p.ts.map eTr) (p.is.map eIm) (p.fs.map eFu) (p.ac.map eAc) q.kind q.num q.text (q.args.map Pa.enc)
  rw [← pa_enc q, ← pq_enc p] at e
  rw [e, g1]
  simp only [Option.bind_some, fits_lstS, toLst_lst, cond_true, v25 (xs := r) (s := q.text) (by simp only [BIG] at g2; simp [maxLen]; omega), retPV_pv, fits_bool, toBool_bool]
  cases q.kind == 6 with
  | false => exact hL
  | true =>
    simp only [cond_true]
    cases has r q.text with
    | false => exact ⟨_, rfl⟩
    | true => exact hL

/-! #### One run -/
def One (Q : Prop) (X : Option Out) : Prop := ∃ a b : Int, X = some (.pv (.tup [.int .i64 a, .int .i64 b]), []) ∧ (a = 0 → Q)
theorem One.of {Q R : Prop} {X : Option Out} (h : One Q X) (k : Q → R) : One R X := by obtain ⟨a, b, e, g⟩ := h; exact ⟨a, b, e, fun h => k (g h)⟩
theorem fitsII (a b : Int) : (Sh.tup [Sh.int .i64, Sh.int .i64]).fits (.tup [.int .i64 a, .int .i64 b]) = true := nrfl rfl
theorem one_step {Q R : Prop} {X X' : Option Out} (h : One Q X) (h' : One R X') :
    One (Q ∧ R) ((X.bind retPV).bind fun r => bif (Sh.tup [Sh.int .i64, Sh.int .i64]).fits r then (bif ((r.r 0).toInt != (0 : Int)) then some (.pv (.tup [.int .i64 ((r.r 0).toInt), .int .i64 ((r.r 1).toInt)]), []) else X') else none) := by
  obtain ⟨a, b, rfl, hi⟩ := h
  obtain ⟨c, d, rfl, hi'⟩ := h'
  simp only [Option.bind_some, retPV_pv, fitsII, cond_true, r_zero, r_succ, toInt_int]
  by_cases ha : a = 0
  · subst ha
    exact ⟨c, d, rfl, fun h => ⟨hi rfl, hi' h⟩⟩
  · rw [show (a != 0) = true from by simpa using ha]
    exact ⟨a, b, rfl, fun h => absurd h ha⟩
noncomputable def exV (p : Pq) (ns : List Str) (e : Ex) : Option Out := V 30 [.pv p.enc, .pv (.lst (ns.map .str)), .pv e.enc]
def OneE (p : Pq) (e : Ex) : Prop := ∀ ns : List Str, ns.length + bk e.enc ≤ 3 * BIG → One (∀ s, Fv e s → s ∈ ns) (exV p ns e)
theorem sA {p : Pq} {arms : List (Pa × Ex)} (hl : arms.length ≤ BIG) (hb : sumA arms ≤ BIG) (hs : ∀ x, x ∈ arms → OneE p x.2) {ns : List Str} (hn : ns.length + sumA arms + 1 ≤ 3 * BIG) : ∀ (l : List (Pa × Ex)) (k : Nat), arms.drop k = l →
    One (∀ x, x ∈ l → ∀ s, Fv x.2 s → s ∈ ns ++ bn x.1) (L30_111111014 (ns.map .str) (arms.map eArm) k p.nm p.ver (p.us.map eUs) (p.ds.map eDt) (p.ts.map eTr) (p.is.map eIm) (p.fs.map eFu) (p.ac.map eAc))
  | [], k, h => by
    rw [e30_111111014 (ns.map .str), endK_map h]
    exact ⟨0, 0, rfl, fun _ x hx => by cases hx⟩
  | x :: l, k, h => by
    have A := atK_map (f := eArm) h (len_max hl)
    have A' := atK h (len_max hl)
    have ih := sA hl hb hs hn l (k + 1) A'.drop
    have hx := mem_drop h
    have hba := bk_arm x
    have hbs : bk (eArm x) ≤ sumA arms := le_sum (List.mem_map.2 ⟨x, hx, rfl⟩)
    have hp2 := bkE_pos x.2
    have g1 := v62 (p := x.1) (by omega)
    unfold NL at g1
    have g2 := bn_len x.1
    have hP := hs x hx (ns ++ bn x.1) (by simp; omega)
    unfold exV at hP
    have c1 := v72b (l := ns) (by omega)
    have s1 : small (ns.map PV.str).length ((bn x.1).map PV.str).length 16 = true := small_of (by simp only [BIG] at hn hb; simp; omega)
    rw [e30_111111014 (ns.map .str)]
    simp only [A.lt, A.ge, A.get, A.next, cond_true, Option.bind_some]
    simp only [arm_fits, arm_ex, arm_pa, cond_true, c1, g1, Option.bind_some, retB_bld, fits_lstS, toLst_lst, headOk_str, s1, ← List.map_append, ← pq_enc]
    refine (one_step hP ih).of fun ⟨q1, q2⟩ y hy => ?_
    rcases List.mem_cons.1 hy with rfl | hy
    · exact q1
    · exact q2 y hy
theorem sB {p : Pq} {e : Ex} (hb : bk e.enc ≤ BIG) (hs : ∀ x, x ∈ parts e → OneE p x) {ns : List Str} (hn : ns.length + bk e.enc ≤ 3 * BIG) : ∀ (l : List Ex) (k : Nat), e.args.drop k = l →
    One ((∀ q, q ∈ scs e l k → ∀ s, Fv q.1 s → s ∈ ns ∨ s ∈ q.2) ∧ ∀ x, x ∈ e.arms → ∀ s, Fv x.2 s → s ∈ ns ++ bn x.1) (L30_11111014 (ns.map .str) (e.args.map Ex.enc) k p.nm p.ver (p.us.map eUs) (p.ds.map eDt) (p.ts.map eTr) (p.is.map eIm) (p.fs.map eFu) (p.ac.map eAc) e.kind e.num e.text (e.names.map .str) e.types (e.arms.map eArm) e.at_)
  | [], k, h => by
    have h1 := bk_ex e
    have h2 := len_sumA e.arms
    rw [e30_11111014 (ns.map .str), endK_map h]
    exact (sA (arms := e.arms) (by omega) (by omega) (fun x hx => hs x.2 (by unfold parts; exact List.mem_append_right _ (List.mem_map.2 ⟨x, hx, rfl⟩))) (by omega) e.arms 0 rfl).of fun g => ⟨fun q hq => (by cases hq), g⟩
  | x :: l, k, h => by
    have hl : e.args.length ≤ BIG := by have h1 := bk_ex e; have h2 := len_sumE e.args; omega
    have A := atK_map (f := Ex.enc) h (len_max hl)
    have A' := atK h (len_max hl)
    have ih := sB hb hs hn l (k + 1) A'.drop
    have hx := mem_drop h
    have hxb := bk_args hx
    have hxp : x ∈ parts e := by simp [parts, hx]
    have hnm : e.names.length + e.text.length + bk x.enc + 2 ≤ bk e.enc := by
      have hle := len_map PV.str e.names
      have hxs : bk x.enc ≤ sumE e.args := le_sum (List.mem_map.2 ⟨x, hx, rfl⟩)
      have he : bk e.enc = bk (.agg [.int .i64 e.kind, .int .i64 e.num, .str e.text, .lst (e.names.map .str), .lst e.types, .lst (e.args.map Ex.enc), .lst (e.arms.map eArm), .int .i64 e.at_]) := by rw [ex_enc]
      unfold sumE at hxs
      rw [← bkL_map] at hxs
      simp only [bk, bkL] at he
      omega
    have c1 := v72b (l := ns) (by omega)
    have hi := inn_len e k ns
    have hin := inn_sc e k ns
    -- the last step
    have stepE : ∀ ns' : List Str, ns' = inn e k ns →
        One ((∀ q, q ∈ scs e (x :: l) k → ∀ s, Fv q.1 s → s ∈ ns ∨ s ∈ q.2) ∧ ∀ x, x ∈ e.arms → ∀ s, Fv x.2 s → s ∈ ns ++ bn x.1) (L30_111110145110411116 (ns.map .str) (ns'.map .str) (e.args.map Ex.enc) k p.nm p.ver (p.us.map eUs) (p.ds.map eDt) (p.ts.map eTr) (p.is.map eIm) (p.fs.map eFu) (p.ac.map eAc) e.kind e.num e.text (e.names.map .str) e.types (e.arms.map eArm) e.at_ x.kind x.num x.text (x.names.map .str) x.types (x.args.map Ex.enc) (x.arms.map eArm) x.at_) := by
      rintro ns' rfl
      have hP := hs x hxp (inn e k ns) (by omega)
      unfold exV at hP
      rw [e30_111110145110411116 (ns.map .str), ← ex_enc, ← pq_enc, A.next]
      refine (one_step hP ih).of fun ⟨q1, q2, q3⟩ => ⟨fun q hq s hf => ?_, q3⟩
      simp only [scs, List.mem_cons] at hq
      rcases hq with rfl | hq
      · exact (hin s).1 (q1 s hf)
      · exact q2 q hq s hf
    have stepN : ∀ ns' : List Str, (e.kind ≠ 10 → ns' = inn e k ns) →
        One ((∀ q, q ∈ scs e (x :: l) k → ∀ s, Fv q.1 s → s ∈ ns ∨ s ∈ q.2) ∧ ∀ x, x ∈ e.arms → ∀ s, Fv x.2 s → s ∈ ns ++ bn x.1) (L30_11111014511041116 (ns.map .str) (ns'.map .str) (e.args.map Ex.enc) k p.nm p.ver (p.us.map eUs) (p.ds.map eDt) (p.ts.map eTr) (p.is.map eIm) (p.fs.map eFu) (p.ac.map eAc) e.kind e.num e.text (e.names.map .str) e.types (e.arms.map eArm) e.at_ x.kind x.num x.text (x.names.map .str) x.types (x.args.map Ex.enc) (x.arms.map eArm) x.at_) := by
      intro ns' h1
      have s1 : small (ns.map PV.str).length (e.names.map PV.str).length 16 = true := small_of (by simp only [BIG] at hn hb; simp; omega)
      rw [e30_11111014511041116 (ns.map .str)]
      cases h10 : e.kind == 10 with
      | false => exact stepE ns' (h1 (by simpa using h10))
      | true =>
        have e10 : e.kind = 10 := by simpa using h10
        simp only [cond_true, c1, Option.bind_some, retB_bld, headOk_str, s1, ← List.map_append]
        exact stepE (ns ++ e.names) (by unfold inn; rw [if_pos e10])
    have stepB : ∀ b : Bool, (e.kind ≠ 10 → b = true → inn e k ns = ns ++ [e.text]) → (e.kind ≠ 10 → b = false → inn e k ns = ns) → One ((∀ q, q ∈ scs e (x :: l) k → ∀ s, Fv q.1 s → s ∈ ns ∨ s ∈ q.2) ∧ ∀ x, x ∈ e.arms → ∀ s, Fv x.2 s → s ∈ ns ++ bn x.1) (L30_111110145110411016 (ns.map .str) (e.args.map Ex.enc) k b p.nm p.ver (p.us.map eUs) (p.ds.map eDt) (p.ts.map eTr) (p.is.map eIm) (p.fs.map eFu) (p.ac.map eAc) e.kind e.num e.text (e.names.map .str) e.types (e.arms.map eArm) e.at_ x.kind x.num x.text (x.names.map .str) x.types (x.args.map Ex.enc) (x.arms.map eArm) x.at_) := by
      intro b hb1 hb2
      have s1 : small (ns.map PV.str).length 1 16 = true := small_of (by simp only [BIG] at hn hb; simp; omega)
      rw [e30_111110145110411016 (ns.map .str)]
      cases b with
      | false => exact stepN ns fun h => (hb2 h rfl).symm
      | true =>
        simp only [cond_true, c1, Option.bind_some, retB_bld, s1]
        rw [show ns.map PV.str ++ [.str e.text] = (ns ++ [e.text]).map .str by simp]
        exact stepN (ns ++ [e.text]) fun h => (hb1 h rfl).symm
    rw [e30_11111014 (ns.map .str)]
    simp only [A.lt, A.ge, A.get, cond_true, Option.bind_some]
    simp only [ex_fits, cond_true]
    simp only [ex_0, ex_1, ex_2, ex_3, ex_4, ex_5, ex_6, ex_7]
    cases h6 : e.kind == 6 with
    | true =>
      have e6 : e.kind = 6 := by simpa using h6
      refine stepB _ (fun h hk => ?_) fun h hk => ?_
      · unfold inn
        rw [if_neg h, if_pos ⟨e6, by have : (k : Int) = 1 := by simpa using hk
                                     omega⟩]
      · unfold inn
        rw [if_neg h, if_neg (fun hc => by rw [hc.2] at hk; exact absurd hk (by decide))]
    | false =>
      have e6 : e.kind ≠ 6 := by simpa using h6
      refine stepB _ (fun h hk => by cases hk) fun h hk => ?_
      unfold inn
      rw [if_neg h, if_neg (fun hc => e6 hc.1)]
theorem sC {p : Pq} (hp : bk p.enc ≤ BIG) {e : Ex} (hb : bk e.enc ≤ BIG) (hs : ∀ x, x ∈ parts e → OneE p x) {ns : List Str} (hn : ns.length + bk e.enc ≤ 3 * BIG) : ∀ (l : List (Pa × Ex)) (k : Nat) (v : Bool), e.arms.drop k = l →
    One (v = true ∧ (∀ q, q ∈ scs e e.args 0 → ∀ s, Fv q.1 s → s ∈ ns ∨ s ∈ q.2) ∧ ∀ x, x ∈ e.arms → ∀ s, Fv x.2 s → s ∈ ns ++ bn x.1) (L30_111014 (ns.map .str) v (e.arms.map eArm) k p.nm p.ver (p.us.map eUs) (p.ds.map eDt) (p.ts.map eTr) (p.is.map eIm) (p.fs.map eFu) (p.ac.map eAc) e.kind e.num e.text (e.names.map .str) e.types (e.args.map Ex.enc) e.at_)
  | [], k, v, h => by
    have q := sB (p := p) hb hs hn e.args 0 rfl
    rw [e30_111014 (ns.map .str), endK_map h]
    simp only [cond_false]
    cases v with
    | true => exact q.of fun g => ⟨rfl, g⟩
    | false => exact ⟨11, e.at_, rfl, fun h => by cases h⟩
  | x :: l, k, v, h => by
    have hl : e.arms.length ≤ BIG := by have h1 := bk_ex e; have h2 := len_sumA e.arms; omega
    have A := atK_map (f := eArm) h (len_max hl)
    have A' := atK h (len_max hl)
    have ih := fun v => sC hp hb hs hn l (k + 1) v A'.drop
    have hx := mem_drop h
    have hxb := (bk_arms hx).2
    have g1 := v62 (p := x.1) (by omega)
    unfold NL at g1
    have g2 := bn_len x.1
    obtain ⟨b1, h81⟩ := v70 (ns := bn x.1) (by have := len_max hb; omega)
    obtain ⟨b2, h83⟩ := v71 hp (q := x.1) (by omega)
    have one : L30_111014 (ns.map .str) v (e.arms.map eArm) k p.nm p.ver (p.us.map eUs) (p.ds.map eDt) (p.ts.map eTr) (p.is.map eIm) (p.fs.map eFu) (p.ac.map eAc) e.kind e.num e.text (e.names.map .str) e.types (e.args.map Ex.enc) e.at_ =
        L30_111014 (ns.map .str) (v && (!b1 && b2)) (e.arms.map eArm) (k + 1 : Nat) p.nm p.ver (p.us.map eUs) (p.ds.map eDt) (p.ts.map eTr) (p.is.map eIm) (p.fs.map eFu) (p.ac.map eAc) e.kind e.num e.text (e.names.map .str) e.types (e.args.map Ex.enc) e.at_ := by
      rw [e30_111014]
      simp only [A.lt, A.ge, A.get, A.next, cond_true, Option.bind_some]
      simp only [arm_fits, arm_pa, cond_true, g1, Option.bind_some, fits_lstS, toLst_lst, h81, retPV_pv, fits_bool, toBool_bool, ← pq_enc, h83]
      cases v <;> cases b1 <;> rfl
    rw [one]
    refine (ih _).of fun ⟨g, g'⟩ => ⟨?_, g'⟩
    cases v
    · exact g
    · rfl
theorem oneE {p : Pq} (hp : bk p.enc ≤ BIG) {e : Ex} (hb : bk e.enc ≤ BIG) : OneE p e := by
  revert hb
  refine Ex.indP (Q := fun e => bk e.enc ≤ BIG → OneE p e) (fun e ih hb => ?_) e
  intro ns hn
  have hs : ∀ x, x ∈ parts e → OneE p x := fun x hx => ih x hx (by have := mem_parts hx; omega)
  have hC := fun v => sC hp hb hs hn e.arms 0 v rfl
  obtain ⟨r1, a1, a2⟩ := v67 hp
  obtain ⟨r2, c1, c2⟩ := v68 hp
  obtain ⟨r3, d1, d2⟩ := v69 hp
  obtain ⟨b4, h81⟩ := v70 (ns := e.names) (by
    have hle := len_map PV.str e.names
    have he : bk e.enc = bk (.agg [.int .i64 e.kind, .int .i64 e.num, .str e.text, .lst (e.names.map .str), .lst e.types, .lst (e.args.map Ex.enc), .lst (e.arms.map eArm), .int .i64 e.at_]) := by rw [ex_enc]
    simp only [bk, bkL] at he
    exact len_max (by omega))
  have hmx : ∀ {n : Nat}, n ≤ 3 * BIG → n ≤ maxLen := fun {n} h => by simp only [BIG] at h; simp [maxLen]; omega
  have q0 := v25 (xs := ns) (s := e.text) (hmx (by omega))
  have q1 := v25 (xs := r1) (s := e.text) (hmx (by omega))
  have q2 := v25 (xs := r2) (s := e.text) (hmx (by omega))
  have q3 := v25 (xs := r3) (s := e.text) (hmx (by omega))
  have k1 := e30 p.nm p.ver (p.us.map eUs) (p.ds.map eDt) (p.ts.map eTr) (p.is.map eIm) (p.fs.map eFu) (p.ac.map eAc) (ns.map .str) e.kind e.num e.text (e.names.map .str) e.types (e.args.map Ex.enc) (e.arms.map eArm) e.at_
  rw [← ex_enc e, ← pq_enc p] at k1
  have other : e.kind ≠ 5 → ∀ v, One (∀ s, Fv e s → s ∈ ns) (L30_111014 (ns.map .str) v (e.arms.map eArm) 0 p.nm p.ver (p.us.map eUs) (p.ds.map eDt) (p.ts.map eTr) (p.is.map eIm) (p.fs.map eFu) (p.ac.map eAc) e.kind e.num e.text (e.names.map .str) e.types (e.args.map Ex.enc) e.at_) := fun h5 v => (hC v).of fun ⟨_, g1, g2⟩ s hf => by
    obtain ⟨q, m1, m2, m3⟩ := (fv_part h5 s).1 hf
    unfold cnt at m1
    rcases List.mem_append.1 m1 with m1 | m1
    · rcases g1 q m1 s m2 with h | h
      · exact h
      · exact absurd h m3
    · obtain ⟨x, hx, rfl⟩ := List.mem_map.1 m1
      rcases List.mem_append.1 (g2 x hx s m2) with h | h
      · exact h
      · exact absurd h m3
  unfold exV
  rw [k1]
  simp only [← pq_enc, a1, c1, d1, Option.bind_some, fits_lstS, toLst_lst, cond_true, q0, q1, q2, q3, h81, retPV_pv, fits_bool, toBool_bool, e30_1116]
  cases h5 : e.kind == 5 with
  | true =>
    have e5 : e.kind = 5 := by simpa using h5
    exact (hC _).of fun ⟨g, _⟩ s hf => by
      rw [(fv_var e5 s).1 hf]
      exact of_decide_eq_true g
  | false =>
    have e5 : e.kind ≠ 5 := by simpa using h5
    cases e.kind == 9 with
    | true => exact other e5 _
    | false =>
      cases e.kind == 12 with
      | true => exact other e5 _
      | false =>
        cases e.kind == 14 with
        | true => exact other e5 _
        | false =>
          cases e.kind == 10 with
          | true => exact other e5 _
          | false => exact other e5 _
end Go.AL.S10.Sc
