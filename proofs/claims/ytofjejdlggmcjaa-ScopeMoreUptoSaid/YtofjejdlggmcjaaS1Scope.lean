/- More names in scope: an expression stays right. -/
import Derived.Test.YtofjejdlggmcjaaS1Prog
set_option linter.unusedVariables false
set_option linter.unusedSimpArgs false
namespace Go.AL.S1
open Go Go.AL

def BoolR (o : Option Out) : Prop := ∃ b : Bool, o = some (.pv (.bool b), [])
theorem l81 {ns : List Str} (hl : ns.length ≤ maxLen) : ∀ (l : List Str) (k : Nat), ns.drop k = l → BoolR (L81_1014 (ns.map .str) k)
  | [], k, h => ⟨_, by rw [e81_1014, endK_map h]; rfl⟩
  | x :: l, k, h => by
    have A := atK_map (f := PV.str) h hl
    have A' := atK h hl
    obtain ⟨b, ih⟩ := l81 hl l (k + 1) A'.drop
    have h55 := v55 (xs := ns.take k) (s := x) (by simp; omega)
    have g : decide ((k : Int) ≤ ((ns.map PV.str).length : Int)) = true := by
      have := A'.ltn
      rw [decide_eq_true (by simp; omega)]
    have ht : (ns.map PV.str).take (k : Int).toNat = (ns.take k).map .str := by simp
    unfold BoolR
    rw [e81_1014]
    simp only [A.lt, A.get, A.next, cond_true, Option.bind_some, g, ht, A.ge, Bool.and_self]
    simp only [fits_strS, toStr_str, cond_true, headOk_str, h55, Option.bind_some, retPV_pv, fits_bool, toBool_bool]
    cases has (ns.take k) x with
    | true => exact ⟨_, rfl⟩
    | false => exact ⟨b, ih⟩
theorem v81 {ns : List Str} (hl : ns.length ≤ maxLen) : BoolR (V 81 [.pv (.lst (ns.map .str))]) := by
  rw [e81]; exact l81 hl ns 0 rfl
theorem l82 {args : List Pa} (hl : args.length ≤ BIG) (hs : ∀ q, q ∈ args → NamesR (V 82 [.pv q.enc]) (bk q.enc)) : ∀ (l : List Pa) (k : Nat) (acc : List Str), args.drop k = l → acc.length + sumP l ≤ BIG → NamesR (L82_101413121014 (acc.map .str) (args.map Pa.enc) k) (acc.length + sumP l)
  | [], k, acc, h, _ => by
    rw [e82_101413121014, endK_map h]
    exact (namesR_bld acc).mono (by omega)
  | x :: l, k, acc, h, hb => by
    have A := atK_map (f := Pa.enc) h (len_max hl)
    have A' := atK h (len_max hl)
    obtain ⟨r, h1, h2⟩ := hs x (mem_drop h)
    rw [sumP_cons] at hb ⊢
    have ih := l82 hl hs l (k + 1) (acc ++ r) A'.drop (by simp; omega)
    have hsm : small (acc.map PV.str).length (r.map PV.str).length 16 = true := small_of (by simp only [BIG] at hb; simp; omega)
    rw [e82_101413121014]
    simp only [A.lt, A.ge, A.get, A.next, cond_true, Option.bind_some]
    simp only [pa_fits, pa_eta, cond_true, h1, Option.bind_some, fits_lstS, toLst_lst, headOk_str, hsm]
    rw [← List.map_append]
    exact ih.mono (by simp; omega)
theorem v82 {p : Pa} (hb : bk p.enc ≤ BIG) : NamesR (V 82 [.pv p.enc]) (bk p.enc) := by
  revert hb
  refine Pa.ind (Q := fun p => bk p.enc ≤ BIG → NamesR (V 82 [.pv p.enc]) (bk p.enc)) (fun p ih hb => ?_) p
  have h1 := bk_pa p
  have h2 := len_sumP p.args
  have hsub : ∀ q, q ∈ p.args → NamesR (V 82 [.pv q.enc]) (bk q.enc) := fun q hq => ih q hq (by
    have : bk q.enc ≤ sumP p.args := le_sum (List.mem_map.2 ⟨q, hq, rfl⟩)
    omega)
  have hL := l82 (args := p.args) (by omega) hsub p.args 0 [] rfl (by simp; omega)
  have e := e82 p.kind p.num p.text (p.args.map Pa.enc)
  rw [← pa_enc p] at e
  rw [e]
  cases p.kind == 2 with
  | true => exact ⟨[p.text], rfl, by simp; omega⟩
  | false =>
    simp only [cond_false]
    cases p.kind == 6 with
    | true => exact hL.mono (by simp; omega)
    | false => exact ⟨[], rfl, by simp⟩
theorem l110 {args : List Pa} {p : Pq} (hl : args.length ≤ BIG) (hs : ∀ q, q ∈ args → BoolR (V 83 [.pv p.enc, .pv q.enc])) : ∀ (l : List Pa) (k : Nat), args.drop k = l → ∃ n : Int, L110_1014 (args.map Pa.enc) 99 [.ptr p.cells] k = some (.pv (.int .i64 n), [])
  | [], k, h => ⟨_, by rw [e110_1014, endK_map h]; rfl⟩
  | x :: l, k, h => by
    have A := atK_map (f := Pa.enc) h (len_max hl)
    have A' := atK h (len_max hl)
    obtain ⟨b, hv⟩ := hs x (mem_drop h)
    obtain ⟨n, ih⟩ := l110 hl hs l (k + 1) A'.drop
    have h99 : V 99 [.pv x.enc, .pv (.ptr p.cells)] = some (.pv (.bool (!b)), []) := by
      have e : V 99 [.pv x.enc, .pv (.ptr p.cells)] = ((V 83 [.pv p.enc, .pv x.enc]).bind retPV).bind fun r => (bif (Sh.bool).fits r then some (.pv (.bool (!r.toBool)), []) else none) := by
        have e := e99 x.kind x.num x.text (x.args.map Pa.enc) p.nm p.ver p.us (p.ds.map eDt) (p.ts.map eTr) (p.is.map eIm) (p.fs.map eFu) (p.ac.map eAc)
        rw [← pa_enc x] at e
        exact e
      rw [e, hv]
      rfl
    rw [e110_1014]
    simp only [A.lt, A.ge, A.get, A.next, cond_true, Option.bind_some]
    simp only [pa_fits, pa_eta, cond_true, List.cons_append, List.nil_append, List.map_cons, List.map_nil, h99, Option.bind_some, retPV_pv, fits_bool, toBool_bool]
    cases b with
    | true => exact ⟨n, ih⟩
    | false => exact ⟨_, rfl⟩
theorem v83 {p : Pq} (hp : bk p.enc ≤ BIG) {q : Pa} (hb : bk q.enc ≤ BIG) : BoolR (V 83 [.pv p.enc, .pv q.enc]) := by
  revert hb
  refine Pa.ind (Q := fun q => bk q.enc ≤ BIG → BoolR (V 83 [.pv p.enc, .pv q.enc])) (fun q ih hb => ?_) q
  have h1 := bk_pa q
  have h2 := len_sumP q.args
  obtain ⟨n, hn⟩ := l110 (p := p) (args := q.args) (by omega) (fun a ha => ih a ha (by
    have : bk a.enc ≤ sumP q.args := le_sum (List.mem_map.2 ⟨a, ha, rfl⟩)
    omega)) q.args 0 rfl
  have h98 : V 98 [.pv (.lst (q.args.map Pa.enc)), .pv (.fn 99 [.ptr p.cells])] = some (.pv (.bool (decide (n ≥ 0))), []) := by
    rw [e98, e110]
    rw [show L110_1014 (q.args.map Pa.enc) 99 [.ptr p.cells] 0 = _ from hn]
    rfl
  obtain ⟨r, g1, g2⟩ := v79 hp
  have hL : BoolR (L83_116 p.nm p.ver p.us (p.ds.map eDt) (p.ts.map eTr) (p.is.map eIm) (p.fs.map eFu) (p.ac.map eAc) q.kind q.num q.text (q.args.map Pa.enc)) := by
    rw [e83_116]
    unfold Pq.cells at h98
    rw [h98]
    exact ⟨_, rfl⟩
  have e := e83 p.nm p.ver p.us (p.ds.map eDt) (p.ts.map eTr) (p.is.map eIm) (p.fs.map eFu) (p.ac.map eAc) q.kind q.num q.text (q.args.map Pa.enc)
  rw [← pa_enc q, ← pq_enc p] at e
  rw [e, g1]
  simp only [Option.bind_some, fits_lstS, toLst_lst, cond_true, v55 (xs := r) (s := q.text) (by simp only [BIG] at g2; simp [maxLen]; omega), retPV_pv, fits_bool, toBool_bool]
  cases q.kind == 6 with
  | false => exact hL
  | true =>
    simp only [cond_true]
    cases has r q.text with
    | false => exact ⟨_, rfl⟩
    | true => exact hL

/-! #### Two runs -/
def Pair (X Y : Option Out) : Prop := ∃ a b a' b' : Int, X = some (.pv (.tup [.int .i64 a, .int .i64 b]), []) ∧ Y = some (.pv (.tup [.int .i64 a', .int .i64 b']), []) ∧ (a = 0 → a' = 0)
theorem fitsII (a b : Int) : (Sh.tup [Sh.int .i64, Sh.int .i64]).fits (.tup [.int .i64 a, .int .i64 b]) = true := nrfl rfl
theorem pair_step {X Y X' Y' : Option Out} (h : Pair X Y) (h' : Pair X' Y') :
    Pair ((X.bind retPV).bind fun r => bif (Sh.tup [Sh.int .i64, Sh.int .i64]).fits r then (bif ((r.r 0).toInt != (0 : Int)) then some (.pv (.tup [.int .i64 ((r.r 0).toInt), .int .i64 ((r.r 1).toInt)]), []) else X') else none)
      ((Y.bind retPV).bind fun r => bif (Sh.tup [Sh.int .i64, Sh.int .i64]).fits r then (bif ((r.r 0).toInt != (0 : Int)) then some (.pv (.tup [.int .i64 ((r.r 0).toInt), .int .i64 ((r.r 1).toInt)]), []) else Y') else none) := by
  obtain ⟨a, b, a', b', rfl, rfl, hi⟩ := h
  obtain ⟨c, d, c', d', rfl, rfl, hi'⟩ := h'
  simp only [Option.bind_some, retPV_pv, fitsII, cond_true, r_zero, r_succ, toInt_int]
  by_cases ha : a = 0
  · have ha' := hi ha
    subst ha; subst ha'
    exact ⟨c, d, c', d', rfl, rfl, hi'⟩
  · rw [show (a != 0) = true from by simpa using ha]
    simp only [cond_true]
    cases a' != 0 with
    | true => exact ⟨a, b, a', b', rfl, rfl, fun h => absurd h ha⟩
    | false => exact ⟨a, b, c', d', rfl, rfl, fun h => absurd h ha⟩
def Sub (ns ms : List Str) : Prop := ∀ s, s ∈ ns → s ∈ ms
theorem Sub.app {ns ms : List Str} (h : Sub ns ms) (l : List Str) : Sub (ns ++ l) (ms ++ l) := fun s hs => by
  rcases List.mem_append.1 hs with hs | hs
  · exact List.mem_append_left _ (h s hs)
  · exact List.mem_append_right _ hs
theorem has_sub {ns ms : List Str} (h : Sub ns ms) (s : Str) : has ns s = true → has ms s = true := fun hs => decide_eq_true (h s (of_decide_eq_true hs))
noncomputable def exV (p : Pq) (ns : List Str) (e : Ex) : Option Out := V 39 [.pv p.enc, .pv (.lst (ns.map .str)), .pv e.enc]
def PairE (p : Pq) (e : Ex) : Prop := ∀ ns ms : List Str, Sub ns ms → ns.length + bk e.enc ≤ 3 * BIG → ms.length + bk e.enc ≤ 3 * BIG → Pair (exV p ns e) (exV p ms e)
theorem sA {p : Pq} {arms : List (Pa × Ex)} (hl : arms.length ≤ BIG) (hb : sumA arms ≤ BIG) (hs : ∀ x, x ∈ arms → PairE p x.2) {ns ms : List Str} (hsub : Sub ns ms) (hn : ns.length + sumA arms + 1 ≤ 3 * BIG) (hm : ms.length + sumA arms + 1 ≤ 3 * BIG) : ∀ (l : List (Pa × Ex)) (k : Nat), arms.drop k = l →
    Pair (L39_111111014 (ns.map .str) (arms.map eArm) k p.nm p.ver p.us (p.ds.map eDt) (p.ts.map eTr) (p.is.map eIm) (p.fs.map eFu) (p.ac.map eAc)) (L39_111111014 (ms.map .str) (arms.map eArm) k p.nm p.ver p.us (p.ds.map eDt) (p.ts.map eTr) (p.is.map eIm) (p.fs.map eFu) (p.ac.map eAc))
  | [], k, h => by
    rw [e39_111111014 (ns.map .str), e39_111111014 (ms.map .str), endK_map h]
    exact ⟨0, 0, 0, 0, rfl, rfl, fun h => h⟩
  | x :: l, k, h => by
    have A := atK_map (f := eArm) h (len_max hl)
    have A' := atK h (len_max hl)
    have ih := sA hl hb hs hsub hn hm l (k + 1) A'.drop
    have hx := mem_drop h
    have hba := bk_arm x
    have hbs : bk (eArm x) ≤ sumA arms := le_sum (List.mem_map.2 ⟨x, hx, rfl⟩)
    have hp2 := bkE_pos x.2
    obtain ⟨r, g1, g2⟩ := v82 (p := x.1) (by omega)
    have hP := hs x hx (ns ++ r) (ms ++ r) (hsub.app r) (by simp; omega) (by simp; omega)
    unfold exV at hP
    have c1 := v40 (l := ns) (by omega)
    have c2 := v40 (l := ms) (by omega)
    have s1 : small (ns.map PV.str).length (r.map PV.str).length 16 = true := small_of (by simp only [BIG] at hn hb; simp; omega)
    have s2 : small (ms.map PV.str).length (r.map PV.str).length 16 = true := small_of (by simp only [BIG] at hm hb; simp; omega)
    rw [e39_111111014 (ns.map .str), e39_111111014 (ms.map .str)]
    simp only [A.lt, A.ge, A.get, A.next, cond_true, Option.bind_some]
    simp only [arm_fits, arm_ex, arm_pa, cond_true, c1, c2, g1, Option.bind_some, retB_bld, fits_lstS, toLst_lst, headOk_str, s1, s2, ← List.map_append, ← pq_enc]
    exact pair_step hP ih
theorem sB {p : Pq} {e : Ex} (hb : bk e.enc ≤ BIG) (hs : ∀ x, x ∈ parts e → PairE p x) {ns ms : List Str} (hsub : Sub ns ms) (hn : ns.length + bk e.enc ≤ 3 * BIG) (hm : ms.length + bk e.enc ≤ 3 * BIG) : ∀ (l : List Ex) (k : Nat), e.args.drop k = l →
    Pair (L39_11111014 (ns.map .str) (e.args.map Ex.enc) k p.nm p.ver p.us (p.ds.map eDt) (p.ts.map eTr) (p.is.map eIm) (p.fs.map eFu) (p.ac.map eAc) e.kind e.num e.text (e.names.map .str) e.types (e.arms.map eArm) e.at_)
      (L39_11111014 (ms.map .str) (e.args.map Ex.enc) k p.nm p.ver p.us (p.ds.map eDt) (p.ts.map eTr) (p.is.map eIm) (p.fs.map eFu) (p.ac.map eAc) e.kind e.num e.text (e.names.map .str) e.types (e.arms.map eArm) e.at_)
  | [], k, h => by
    have h1 := bk_ex e
    have h2 := len_sumA e.arms
    rw [e39_11111014 (ns.map .str), e39_11111014 (ms.map .str), endK_map h]
    exact sA (by omega) (by omega) (fun x hx => hs x.2 (by unfold parts; exact List.mem_append_right _ (List.mem_map.2 ⟨x, hx, rfl⟩))) hsub (by omega) (by omega) e.arms 0 rfl
  | x :: l, k, h => by
    have hl : e.args.length ≤ BIG := by have h1 := bk_ex e; have h2 := len_sumE e.args; omega
    have A := atK_map (f := Ex.enc) h (len_max hl)
    have A' := atK h (len_max hl)
    have ih := sB hb hs hsub hn hm l (k + 1) A'.drop
    have hx := mem_drop h
    have hxb := bk_args hx
    have hxp : x ∈ parts e := by simp [parts, hx]
    have hnm : e.names.length + e.text.length + bk x.enc + 2 ≤ bk e.enc := by
      have hle := len_map PV.str e.names
      have hxs : bk x.enc ≤ sumE e.args := le_sum (List.mem_map.2 ⟨x, hx, rfl⟩)
      have he : bk e.enc = bk (.agg [.int .i64 e.kind, .int .i64 e.num, .str e.text, .lst (e.names.map .str), .lst e.types, .lst (e.args.map Ex.enc), .lst (e.arms.map eArm), .int .i64 e.at_]) := by rw [ex_enc]
      unfold sumE at hxs
      rw [← bkL_map] at hxs
      simp only [bk, bkL] at he
      omega
    have c1 := v40 (l := ns) (by omega)
    have c2 := v40 (l := ms) (by omega)
    -- the last step
    have stepE : ∀ ns' ms' : List Str, Sub ns' ms' → ns'.length + bk x.enc ≤ 3 * BIG → ms'.length + bk x.enc ≤ 3 * BIG →
        Pair (L39_111110145110411116 (ns.map .str) (ns'.map .str) (e.args.map Ex.enc) k p.nm p.ver p.us (p.ds.map eDt) (p.ts.map eTr) (p.is.map eIm) (p.fs.map eFu) (p.ac.map eAc) e.kind e.num e.text (e.names.map .str) e.types (e.arms.map eArm) e.at_ x.kind x.num x.text (x.names.map .str) x.types (x.args.map Ex.enc) (x.arms.map eArm) x.at_)
          (L39_111110145110411116 (ms.map .str) (ms'.map .str) (e.args.map Ex.enc) k p.nm p.ver p.us (p.ds.map eDt) (p.ts.map eTr) (p.is.map eIm) (p.fs.map eFu) (p.ac.map eAc) e.kind e.num e.text (e.names.map .str) e.types (e.arms.map eArm) e.at_ x.kind x.num x.text (x.names.map .str) x.types (x.args.map Ex.enc) (x.arms.map eArm) x.at_) := by
      intro ns' ms' h1 h2 h3
      have hP := hs x hxp ns' ms' h1 h2 h3
      unfold exV at hP
      rw [e39_111110145110411116 (ns.map .str), e39_111110145110411116 (ms.map .str), ← ex_enc, ← pq_enc, A.next]
      exact pair_step hP ih
    have stepN : ∀ ns' ms' : List Str, Sub ns' ms' → ns'.length + bk x.enc ≤ 3 * BIG → ms'.length + bk x.enc ≤ 3 * BIG →
        Pair (L39_11111014511041116 (ns.map .str) (ns'.map .str) (e.args.map Ex.enc) k p.nm p.ver p.us (p.ds.map eDt) (p.ts.map eTr) (p.is.map eIm) (p.fs.map eFu) (p.ac.map eAc) e.kind e.num e.text (e.names.map .str) e.types (e.arms.map eArm) e.at_ x.kind x.num x.text (x.names.map .str) x.types (x.args.map Ex.enc) (x.arms.map eArm) x.at_)
          (L39_11111014511041116 (ms.map .str) (ms'.map .str) (e.args.map Ex.enc) k p.nm p.ver p.us (p.ds.map eDt) (p.ts.map eTr) (p.is.map eIm) (p.fs.map eFu) (p.ac.map eAc) e.kind e.num e.text (e.names.map .str) e.types (e.arms.map eArm) e.at_ x.kind x.num x.text (x.names.map .str) x.types (x.args.map Ex.enc) (x.arms.map eArm) x.at_) := by
      intro ns' ms' h1 h2 h3
      have s1 : small (ns.map PV.str).length (e.names.map PV.str).length 16 = true := small_of (by simp only [BIG] at hn hb; simp; omega)
      have s2 : small (ms.map PV.str).length (e.names.map PV.str).length 16 = true := small_of (by simp only [BIG] at hm hb; simp; omega)
      rw [e39_11111014511041116 (ns.map .str), e39_11111014511041116 (ms.map .str)]
      cases e.kind == 10 with
      | false => exact stepE ns' ms' h1 h2 h3
      | true =>
        simp only [cond_true, c1, c2, Option.bind_some, retB_bld, headOk_str, s1, s2, ← List.map_append]
        exact stepE (ns ++ e.names) (ms ++ e.names) (hsub.app _) (by simp; omega) (by simp; omega)
    have stepB : ∀ b : Bool, Pair (L39_111110145110411016 (ns.map .str) (e.args.map Ex.enc) k b p.nm p.ver p.us (p.ds.map eDt) (p.ts.map eTr) (p.is.map eIm) (p.fs.map eFu) (p.ac.map eAc) e.kind e.num e.text (e.names.map .str) e.types (e.arms.map eArm) e.at_ x.kind x.num x.text (x.names.map .str) x.types (x.args.map Ex.enc) (x.arms.map eArm) x.at_)
          (L39_111110145110411016 (ms.map .str) (e.args.map Ex.enc) k b p.nm p.ver p.us (p.ds.map eDt) (p.ts.map eTr) (p.is.map eIm) (p.fs.map eFu) (p.ac.map eAc) e.kind e.num e.text (e.names.map .str) e.types (e.arms.map eArm) e.at_ x.kind x.num x.text (x.names.map .str) x.types (x.args.map Ex.enc) (x.arms.map eArm) x.at_) := by
      intro b
      have s1 : small (ns.map PV.str).length 1 16 = true := small_of (by simp only [BIG] at hn hb; simp; omega)
      have s2 : small (ms.map PV.str).length 1 16 = true := small_of (by simp only [BIG] at hm hb; simp; omega)
      rw [e39_111110145110411016 (ns.map .str), e39_111110145110411016 (ms.map .str)]
      cases b with
      | false => exact stepN ns ms hsub (by omega) (by omega)
      | true =>
        simp only [cond_true, c1, c2, Option.bind_some, retB_bld, s1, s2]
        rw [show ns.map PV.str ++ [.str e.text] = (ns ++ [e.text]).map .str by simp, show ms.map PV.str ++ [.str e.text] = (ms ++ [e.text]).map .str by simp]
        exact stepN (ns ++ [e.text]) (ms ++ [e.text]) (hsub.app _) (by simp; omega) (by simp; omega)
    rw [e39_11111014 (ns.map .str), e39_11111014 (ms.map .str)]
    simp only [A.lt, A.ge, A.get, cond_true, Option.bind_some]
    simp only [ex_fits, cond_true]
    simp only [ex_0, ex_1, ex_2, ex_3, ex_4, ex_5, ex_6, ex_7]
    cases e.kind == 6 with
    | true => exact stepB _
    | false => exact stepB _
theorem sC {p : Pq} (hp : bk p.enc ≤ BIG) {e : Ex} (hb : bk e.enc ≤ BIG) (hs : ∀ x, x ∈ parts e → PairE p x) {ns ms : List Str} (hsub : Sub ns ms) (hn : ns.length + bk e.enc ≤ 3 * BIG) (hm : ms.length + bk e.enc ≤ 3 * BIG) : ∀ (l : List (Pa × Ex)) (k : Nat) (v w : Bool), (v = true → w = true) → e.arms.drop k = l →
    Pair (L39_111014 (ns.map .str) v (e.arms.map eArm) k p.nm p.ver p.us (p.ds.map eDt) (p.ts.map eTr) (p.is.map eIm) (p.fs.map eFu) (p.ac.map eAc) e.kind e.num e.text (e.names.map .str) e.types (e.args.map Ex.enc) e.at_)
      (L39_111014 (ms.map .str) w (e.arms.map eArm) k p.nm p.ver p.us (p.ds.map eDt) (p.ts.map eTr) (p.is.map eIm) (p.fs.map eFu) (p.ac.map eAc) e.kind e.num e.text (e.names.map .str) e.types (e.args.map Ex.enc) e.at_)
  | [], k, v, w, hvw, h => by
    obtain ⟨a, b, a', b', q1, q2, q3⟩ := sB (p := p) hb hs hsub hn hm e.args 0 rfl
    rw [e39_111014 (ns.map .str), e39_111014 (ms.map .str), endK_map h]
    simp only [cond_false]
    cases v with
    | true =>
      rw [hvw rfl]
      exact ⟨a, b, a', b', q1, q2, q3⟩
    | false =>
      cases w with
      | false => exact ⟨11, e.at_, 11, e.at_, rfl, rfl, fun h => by cases h⟩
      | true => exact ⟨11, e.at_, a', b', rfl, q2, fun h => by cases h⟩
  | x :: l, k, v, w, hvw, h => by
    have hl : e.arms.length ≤ BIG := by have h1 := bk_ex e; have h2 := len_sumA e.arms; omega
    have A := atK_map (f := eArm) h (len_max hl)
    have A' := atK h (len_max hl)
    have ih := fun v w hvw => sC hp hb hs hsub hn hm l (k + 1) v w hvw A'.drop
    have hx := mem_drop h
    have hxb := (bk_arms hx).2
    obtain ⟨r, g1, g2⟩ := v82 (p := x.1) (by omega)
    obtain ⟨b1, h81⟩ := v81 (ns := r) (by have := len_max hb; omega)
    obtain ⟨b2, h83⟩ := v83 hp (q := x.1) (by omega)
    have one : ∀ (zs : List Str) (u : Bool), L39_111014 (zs.map .str) u (e.arms.map eArm) k p.nm p.ver p.us (p.ds.map eDt) (p.ts.map eTr) (p.is.map eIm) (p.fs.map eFu) (p.ac.map eAc) e.kind e.num e.text (e.names.map .str) e.types (e.args.map Ex.enc) e.at_ =
        L39_111014 (zs.map .str) (u && (!b1 && b2)) (e.arms.map eArm) (k + 1 : Nat) p.nm p.ver p.us (p.ds.map eDt) (p.ts.map eTr) (p.is.map eIm) (p.fs.map eFu) (p.ac.map eAc) e.kind e.num e.text (e.names.map .str) e.types (e.args.map Ex.enc) e.at_ := by
      intro zs u
      rw [e39_111014]
      simp only [A.lt, A.ge, A.get, A.next, cond_true, Option.bind_some]
      simp only [arm_fits, arm_pa, cond_true, g1, Option.bind_some, fits_lstS, toLst_lst, h81, retPV_pv, fits_bool, toBool_bool, ← pq_enc, h83]
      cases u <;> cases b1 <;> rfl
    rw [one, one]
    exact ih _ _ (by cases v with | false => simp | true => rw [hvw rfl]; exact fun h => h)
theorem pairE {p : Pq} (hp : bk p.enc ≤ BIG) {e : Ex} (hb : bk e.enc ≤ BIG) : PairE p e := by
  revert hb
  refine Ex.indP (Q := fun e => bk e.enc ≤ BIG → PairE p e) (fun e ih hb => ?_) e
  intro ns ms hsub hn hm
  have hs : ∀ x, x ∈ parts e → PairE p x := fun x hx => ih x hx (by have := mem_parts hx; omega)
  have hC := fun v w hvw => sC hp hb hs hsub hn hm e.arms 0 v w hvw rfl
  obtain ⟨r1, a1, a2⟩ := v78 hp
  obtain ⟨r2, c1, c2⟩ := v79 hp
  obtain ⟨r3, d1, d2⟩ := v80 hp
  obtain ⟨b4, h81⟩ := v81 (ns := e.names) (by
    have hle := len_map PV.str e.names
    have he : bk e.enc = bk (.agg [.int .i64 e.kind, .int .i64 e.num, .str e.text, .lst (e.names.map .str), .lst e.types, .lst (e.args.map Ex.enc), .lst (e.arms.map eArm), .int .i64 e.at_]) := by rw [ex_enc]
    simp only [bk, bkL] at he
    exact len_max (by omega))
  have hmx : ∀ {n : Nat}, n ≤ 3 * BIG → n ≤ maxLen := fun {n} h => by simp only [BIG] at h; simp [maxLen]; omega
  have q0 := v55 (xs := ns) (s := e.text) (hmx (by omega))
  have q0' := v55 (xs := ms) (s := e.text) (hmx (by omega))
  have q1 := v55 (xs := r1) (s := e.text) (hmx (by omega))
  have q2 := v55 (xs := r2) (s := e.text) (hmx (by omega))
  have q3 := v55 (xs := r3) (s := e.text) (hmx (by omega))
  have k1 := e39 p.nm p.ver p.us (p.ds.map eDt) (p.ts.map eTr) (p.is.map eIm) (p.fs.map eFu) (p.ac.map eAc) (ns.map .str) e.kind e.num e.text (e.names.map .str) e.types (e.args.map Ex.enc) (e.arms.map eArm) e.at_
  have k2 := e39 p.nm p.ver p.us (p.ds.map eDt) (p.ts.map eTr) (p.is.map eIm) (p.fs.map eFu) (p.ac.map eAc) (ms.map .str) e.kind e.num e.text (e.names.map .str) e.types (e.args.map Ex.enc) (e.arms.map eArm) e.at_
  rw [← ex_enc e, ← pq_enc p] at k1 k2
  unfold exV
  rw [k1, k2]
  simp only [← pq_enc, a1, c1, d1, Option.bind_some, fits_lstS, toLst_lst, cond_true, q0, q0', q1, q2, q3, h81, retPV_pv, fits_bool, toBool_bool, e39_1116]
  cases e.kind == 5 with
  | true => exact hC _ _ (has_sub hsub _)
  | false =>
    cases e.kind == 9 with
    | true => exact hC _ _ (fun h => h)
    | false =>
      cases e.kind == 12 with
      | true => exact hC _ _ (fun h => h)
      | false =>
        cases e.kind == 14 with
        | true => exact hC _ _ (fun h => h)
        | false =>
          cases e.kind == 10 with
          | true => exact hC _ _ (fun h => h)
          | false => exact hC _ _ (fun h => h)

/-! #### The law -/
theorem l11 {p : Pq} (hp : bk p.enc ≤ BIG) {P : List Ex} (hl : P.length ≤ maxLen) (hb : ∀ x, x ∈ P → bk x.enc ≤ BIG) {ns : List Str} {more : Str} (hn : ns.length ≤ BIG) : ∀ (l : List Ex) (k : Nat), P.drop k = l →
    L11_111014 (ns.map .str) more (P.map Ex.enc) k p.nm p.ver p.us (p.ds.map eDt) (p.ts.map eTr) (p.is.map eIm) (p.fs.map eFu) (p.ac.map eAc) = some (.pv (.bool true), [])
  | [], k, h => by rw [e11_111014, endK_map h]; rfl
  | x :: l, k, h => by
    have A := atK_map (f := Ex.enc) h hl
    have A' := atK h hl
    have ih := l11 hp hl hb (more := more) hn l (k + 1) A'.drop
    have hxb := hb x (mem_drop h)
    obtain ⟨a, b, a', b', q1, q2, q3⟩ := pairE hp hxb ns (ns ++ [more]) (fun s hs => List.mem_append_left _ hs) (by omega) (by simp; simp only [BIG] at hn hxb ⊢; omega)
    unfold exV at q1 q2
    have c1 := v40 (l := ns) (by omega)
    have s1 : small (ns.map PV.str).length 1 16 = true := small_of (by simp only [BIG] at hn; simp; omega)
    have em : ns.map PV.str ++ [.str more] = (ns ++ [more]).map .str := by simp
    rw [e11_111014]
    simp only [A.lt, A.ge, A.get, A.next, cond_true, Option.bind_some]
    simp only [ex_fits, ex_eta, cond_true, ← pq_enc, q1, c1, s1, em, q2, Option.bind_some, retPV_pv, retB_bld, fitsII, r_zero, toInt_int]
    by_cases ha : a = 0
    · rw [q3 ha, ha]; exact ih
    · rw [show (a == 0) = false from by simpa using ha]; exact ih
theorem v37 : V 37 [] = some (.pv (.bool true), []) := (V_A pa 37 []).le 40 _ (by kernel_rfl)
theorem law11 {p : Pq} (hp : bk p.enc ≤ BIG) {ns : List Str} {more : Str} (hn : ns.length ≤ BIG) : V 11 [.pv p.enc, .pv (.lst (ns.map .str)), .pv (.str more)] = some (.pv (.bool true), []) := by
  obtain ⟨b, h36⟩ := v36 hp
  obtain ⟨r, g1, g2, g3⟩ := v38 hp
  have hL := l11 hp (P := r) (by simp only [BIG] at g2; simp [maxLen]; omega) g3 (more := more) hn r 0 rfl
  rw [pq_enc] at h36 g1 ⊢
  rw [e11, h36, v37, g1]
  simp only [Option.bind_some, retPV_pv, fits_bool, toBool_bool, fits_lstS, toLst_lst, cond_true, Bool.not_true, cond_false]
  cases b with
  | false => rfl
  | true => exact hL
end Go.AL.S1
