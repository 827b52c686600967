/- Effects: own ones, calls, bodies. -/
import Derived.Test.YtofjejdlggmcjaaS1EEff
import Derived.Test.YtofjejdlggmcjaaS1Prog
set_option linter.unusedVariables false
set_option linter.unusedSimpArgs false
namespace Go.AL.S1
open Go Go.AL

/-! #### Masks -/
theorem orI {a b : Nat} (ha : a < 128) (hb : b < 128) : IntKind.i64.wrap (((BitVec.ofInt (IntKind.bits .i64) (a : Int) ||| BitVec.ofInt (IntKind.bits .i64) (b : Int)).toNat : Nat) : Int) = ((a ||| b : Nat) : Int) ∧ a ||| b < 128 := by
  have h7 : a ||| b < 128 := Nat.or_lt_two_pow (n := 7) ha hb
  refine ⟨?_, h7⟩
  have e : (BitVec.ofInt (IntKind.bits .i64) (a : Int) ||| BitVec.ofInt (IntKind.bits .i64) (b : Int)).toNat = a ||| b := by
    rw [BitVec.toNat_or, BitVec.ofInt_natCast, BitVec.ofInt_natCast, BitVec.toNat_ofNat, BitVec.toNat_ofNat]
    have h64 : 2 ^ (IntKind.bits .i64) = 18446744073709551616 := by decide
    rw [h64, Nat.mod_eq_of_lt (by omega), Nat.mod_eq_of_lt (by omega)]
  rw [e]
  exact wrap_i64 (by omega) (by omega)
theorem andNotI {a b : Nat} (ha : a < 128) (hb : b < 128) (h : a ||| b = b) : IntKind.i64.wrap (((BitVec.ofInt (IntKind.bits .i64) (a : Int) &&& ~~~ BitVec.ofInt (IntKind.bits .i64) (b : Int)).toNat : Nat) : Int) = 0 := by
  have e : BitVec.ofInt (IntKind.bits .i64) (a : Int) &&& ~~~ BitVec.ofInt (IntKind.bits .i64) (b : Int) = 0#(IntKind.bits .i64) := by
    apply BitVec.eq_of_getLsbD_eq
    intro i hi
    rw [BitVec.ofInt_natCast, BitVec.ofInt_natCast]
    simp only [BitVec.getLsbD_and, BitVec.getLsbD_not, BitVec.getLsbD_ofNat, BitVec.getLsbD_zero]
    have hb' : b.testBit i = (a.testBit i || b.testBit i) := by rw [← Nat.testBit_or, h]
    rw [hb']
    cases a.testBit i <;> simp
  rw [e]
  rfl
def mle (a b : Nat) : Prop := a ||| b = b
theorem mle.refl (a : Nat) : mle a a := Nat.or_self a
theorem mle.trans {a b c : Nat} (h : mle a b) (k : mle b c) : mle a c := by
  unfold mle at *
  rw [← k, ← Nat.or_assoc, h]
theorem mle.zero (a : Nat) : mle 0 a := Nat.zero_or a
theorem mle.left (a b : Nat) : mle a (a ||| b) := by unfold mle; rw [← Nat.or_assoc, Nat.or_self]
theorem mle.right (a b : Nat) : mle b (a ||| b) := by unfold mle; rw [Nat.or_comm a b]; exact mle.left b a
theorem mle.or {a b c : Nat} (h : mle a c) (k : mle b c) : mle (a ||| b) c := by unfold mle at *; rw [Nat.or_assoc, k, h]
theorem mle.or2 {a b c d : Nat} (h : mle a c) (k : mle b d) : mle (a ||| b) (c ||| d) := (h.trans (mle.left c d)).or (k.trans (mle.right c d))
theorem mle.le {a b : Nat} (h : mle a b) : a ≤ b := by unfold mle at h; rw [← h]; exact Nat.left_le_or

/-! #### Walks, with what they hold -/
def WalkOf (e : Ex) (W : List Ex) : Prop := V 50 [.pv e.enc] = some (.bld 8 (W.map Ex.enc), []) ∧ W.length ≤ BIG ∧ ∀ x, x ∈ W → bk x.enc ≤ BIG
theorem l50s {P : List Ex} (hl : P.length ≤ BIG) (hs : ∀ a, a ∈ P → (∃ W : List Ex, V 50 [.pv a.enc] = some (.bld 8 (W.map Ex.enc), []) ∧ W.length + 1 ≤ bk a.enc ∧ ∀ x, x ∈ W → bk x.enc ≤ BIG)) : ∀ (l : List Ex) (k : Nat) (acc : List Ex), P.drop k = l → acc.length + sumE l ≤ 2 * BIG → (∀ x, x ∈ acc → bk x.enc ≤ BIG) →
    ∃ W : List Ex, L50_11014 (acc.map Ex.enc) (P.map Ex.enc) k = some (.bld 8 (W.map Ex.enc), []) ∧ W.length ≤ acc.length + sumE l ∧ ∀ x, x ∈ W → bk x.enc ≤ BIG
  | [], k, acc, h, _, ha => ⟨acc, by rw [e50_11014, endK_map h]; rfl, by simp [sumE], ha⟩
  | x :: l, k, acc, h, hacc, ha => by
    have A := atK_map (f := Ex.enc) h (len_max hl)
    have A' := atK h (len_max hl)
    obtain ⟨W, hv, hW, hWb⟩ := hs x (mem_drop h)
    rw [sumE_cons] at hacc ⊢
    obtain ⟨W', g1, g3, g4⟩ := l50s hl hs l (k + 1) (acc ++ W) A'.drop (by simp; omega) (fun y hy => by
      rcases List.mem_append.1 hy with hy | hy
      · exact ha y hy
      · exact hWb y hy)
    have hsm : small (acc.map Ex.enc).length (W.map Ex.enc).length 136 = true := small_of (by simp only [BIG] at hacc; simp; omega)
    refine ⟨W', ?_, by simp at g3; omega, g4⟩
    rw [e50_11014]
    simp only [A.lt, A.ge, A.get, A.next, cond_true, Option.bind_some]
    simp only [ex_fits, ex_eta, cond_true, hv, Option.bind_some, retPV_bld, fits_lstS, toLst_lst, headOk_ex, hsm]
    rw [show acc.map Ex.enc ++ W.map Ex.enc = (acc ++ W).map Ex.enc by simp]
    exact g1
theorem v50s {e : Ex} (hb : bk e.enc ≤ BIG) : ∃ W : List Ex, V 50 [.pv e.enc] = some (.bld 8 (W.map Ex.enc), []) ∧ W.length + 1 ≤ bk e.enc ∧ ∀ x, x ∈ W → bk x.enc ≤ BIG := by
  revert hb
  refine Ex.indP (Q := fun e => bk e.enc ≤ BIG → ∃ W : List Ex, V 50 [.pv e.enc] = some (.bld 8 (W.map Ex.enc), []) ∧ W.length + 1 ≤ bk e.enc ∧ ∀ x, x ∈ W → bk x.enc ≤ BIG) (fun e ih hb => ?_) e
  have h1 := sumE_parts e
  have h2 := len_sumE (parts e)
  obtain ⟨W, g1, g3, g4⟩ := l50s (P := parts e) (by omega) (fun a ha => ih a ha (by have := mem_parts ha; omega)) (parts e) 0 [e] rfl (by simp; simp only [BIG] at hb ⊢; omega) (by simpa using hb)
  have hp := v48 hb
  have he := ex_enc e
  refine ⟨W, ?_, by simp at g3; omega, g4⟩
  rw [he] at hp ⊢
  rw [e50, hp]
  simp only [Option.bind_some, retPV_bld, fits_lstS, toLst_lst, cond_true]
  rw [← he]
  exact g1
open Classical in
noncomputable def wk (e : Ex) : List Ex := if h : ∃ W, WalkOf e W then h.choose else []
theorem wk_of {e : Ex} (hb : bk e.enc ≤ BIG) : WalkOf e (wk e) := by
  obtain ⟨W, h1, h2, h3⟩ := v50s hb
  have h : ∃ W, WalkOf e W := ⟨W, h1, by omega, h3⟩
  unfold wk
  rw [dif_pos h]
  exact h.choose_spec

/-! #### Own effects -/
def MaskR (o : Option Out) : Prop := ∃ n : Nat, o = some (.pv (.int .i64 (n : Int)), []) ∧ n < 128
theorem s54b {a : Nat} (ha : a < 128) (v : List PV) (k : Int) (kd : Int) (b : Bool) : ∃ a' : Nat, a' < 128 ∧ L54_1101451104114131313131316 (a : Int) v k kd b = L54_11014 (a' : Int) v (IntKind.i64.wrap (k + 1)) := by
  have o32 : IntKind.i64.wrap (((BitVec.ofInt (IntKind.bits .i64) (a : Int) ||| BitVec.ofInt (IntKind.bits .i64) (32 : Int)).toNat : Nat) : Int) = ((a ||| 32 : Nat) : Int) := (orI ha (by decide : 32 < 128)).1
  have o64 : IntKind.i64.wrap (((BitVec.ofInt (IntKind.bits .i64) (a : Int) ||| BitVec.ofInt (IntKind.bits .i64) (64 : Int)).toNat : Nat) : Int) = ((a ||| 64 : Nat) : Int) := (orI ha (by decide : 64 < 128)).1
  have l32 := (orI ha (by decide : 32 < 128)).2
  have l64 := (orI ha (by decide : 64 < 128)).2
  rw [e54_1101451104114131313131316, o32, o64]
  cases b with
  | true => exact ⟨_, l32, rfl⟩
  | false =>
    cases kd == 21 with
    | true => exact ⟨_, l64, rfl⟩
    | false =>
      cases kd == 22 with
      | true => exact ⟨_, l64, rfl⟩
      | false =>
        cases kd == 23 with
        | true => exact ⟨_, l64, rfl⟩
        | false => exact ⟨a, ha, rfl⟩
theorem l54 {P : List Ex} (hl : P.length ≤ BIG) : ∀ (l : List Ex) (k : Nat) (a : Nat), P.drop k = l → a < 128 → MaskR (L54_11014 (a : Int) (P.map Ex.enc) k)
  | [], k, a, h, ha => ⟨a, by rw [e54_11014, endK_map h]; rfl, ha⟩
  | x :: l, k, a, h, ha => by
    have A := atK_map (f := Ex.enc) h (len_max hl)
    have A' := atK h (len_max hl)
    have ih := fun a ha => l54 hl l (k + 1) a A'.drop ha
    have o1 : IntKind.i64.wrap (((BitVec.ofInt (IntKind.bits .i64) (a : Int) ||| BitVec.ofInt (IntKind.bits .i64) (1 : Int)).toNat : Nat) : Int) = ((a ||| 1 : Nat) : Int) := (orI ha (by decide : 1 < 128)).1
    have o2 : IntKind.i64.wrap (((BitVec.ofInt (IntKind.bits .i64) (a : Int) ||| BitVec.ofInt (IntKind.bits .i64) (2 : Int)).toNat : Nat) : Int) = ((a ||| 2 : Nat) : Int) := (orI ha (by decide : 2 < 128)).1
    have o4 : IntKind.i64.wrap (((BitVec.ofInt (IntKind.bits .i64) (a : Int) ||| BitVec.ofInt (IntKind.bits .i64) (4 : Int)).toNat : Nat) : Int) = ((a ||| 4 : Nat) : Int) := (orI ha (by decide : 4 < 128)).1
    have o8 : IntKind.i64.wrap (((BitVec.ofInt (IntKind.bits .i64) (a : Int) ||| BitVec.ofInt (IntKind.bits .i64) (8 : Int)).toNat : Nat) : Int) = ((a ||| 8 : Nat) : Int) := (orI ha (by decide : 8 < 128)).1
    have o16 : IntKind.i64.wrap (((BitVec.ofInt (IntKind.bits .i64) (a : Int) ||| BitVec.ofInt (IntKind.bits .i64) (16 : Int)).toNat : Nat) : Int) = ((a ||| 16 : Nat) : Int) := (orI ha (by decide : 16 < 128)).1
    have last : ∀ kd b, MaskR (L54_1101451104114131313131316 (a : Int) (P.map Ex.enc) k kd b) := fun kd b => by
      obtain ⟨a', h1, h2⟩ := s54b ha (P.map Ex.enc) k kd b
      rw [h2, A.next]
      exact ih a' h1
    rw [e54_11014]
    simp only [A.lt, A.ge, A.get, A.next, cond_true, Option.bind_some]
    simp only [ex_fits, cond_true, o1, o2, o4, o8, o16]
    cases (x.enc.c 0).toInt == 20 with
    | true => exact ih _ (orI ha (by decide)).2
    | false =>
      cases (x.enc.c 0).toInt == 15 with
      | true => exact ih _ (orI ha (by decide)).2
      | false =>
        cases (x.enc.c 0).toInt == 14 with
        | true => exact ih _ (orI ha (by decide)).2
        | false =>
          cases (x.enc.c 0).toInt == 18 with
          | true => exact ih _ (orI ha (by decide)).2
          | false =>
            cases (x.enc.c 0).toInt == 19 with
            | true => exact ih _ (orI ha (by decide)).2
            | false =>
              cases (x.enc.c 0).toInt == 24 with
              | true => exact last _ _
              | false => exact last _ _
theorem v54 {e : Ex} (hb : bk e.enc ≤ BIG) : MaskR (V 54 [.pv e.enc]) := by
  obtain ⟨h1, h2, h3⟩ := wk_of hb
  have he := ex_enc e
  rw [he] at h1 ⊢
  rw [e54, h1]
  simp only [Option.bind_some, retPV_bld, fits_lstS, toLst_lst, cond_true]
  exact l54 h2 (wk e) 0 0 rfl (by decide)
/-! #### Calls -/
theorem l56 {P : List Ex} (hl : P.length ≤ BIG) : ∀ (l : List Ex) (k : Nat) (acc : List Str), P.drop k = l → acc.length + l.length ≤ BIG → NamesR (L56_11014 (acc.map .str) (P.map Ex.enc) k) BIG
  | [], k, acc, h, ha => by rw [e56_11014, endK_map h]; exact (namesR_bld acc).mono (by simp at ha; omega)
  | x :: l, k, acc, h, ha => by
    have A := atK_map (f := Ex.enc) h (len_max hl)
    have A' := atK h (len_max hl)
    have ih := fun acc ha => l56 hl l (k + 1) acc A'.drop ha
    have hsm : small (acc.map PV.str).length 1 16 = true := small_of (by simp only [BIG] at ha; simp at ha ⊢; omega)
    have h55 := v55 (xs := acc) (s := x.text) (len_max (by omega))
    have last : ∀ b, NamesR (L56_1101451104116 (acc.map .str) (P.map Ex.enc) k b x.kind x.num x.text (x.names.map .str) x.types (x.args.map Ex.enc) (x.arms.map eArm) x.at_) BIG := fun b => by
      rw [e56_1101451104116, hsm, A.next]
      cases b with
      | true =>
        simp only [cond_true]
        rw [show acc.map PV.str ++ [.str x.text] = (acc ++ [x.text]).map .str by simp]
        exact ih _ (by simp at ha ⊢; omega)
      | false => exact ih _ (by simp at ha ⊢; omega)
    rw [e56_11014]
    simp only [A.lt, A.ge, A.get, A.next, cond_true, Option.bind_some]
    simp only [ex_fits, cond_true, ex_0, ex_1, ex_2, ex_3, ex_4, ex_5, ex_6, ex_7, h55, Option.bind_some, retPV_pv, fits_bool, toBool_bool]
    cases x.kind == 9 with
    | true => exact last _
    | false => exact last _
theorem v56 {e : Ex} (hb : bk e.enc ≤ BIG) : NamesR (V 56 [.pv e.enc]) BIG := by
  obtain ⟨h1, h2, h3⟩ := wk_of hb
  have he := ex_enc e
  rw [he] at h1 ⊢
  rw [e56, h1]
  simp only [Option.bind_some, retPV_bld, fits_lstS, toLst_lst, cond_true]
  exact l56 h2 (wk e) 0 [] rfl (by simpa using h2)
/-! #### Applies -/
theorem l115 {P : List Ex} (hl : P.length ≤ BIG) : ∀ (l : List Ex) (k : Nat), P.drop k = l → ∃ n : Int, L115_1014 (P.map Ex.enc) 114 [] k = some (.pv (.int .i64 n), [])
  | [], k, h => ⟨_, by rw [e115_1014, endK_map h]; rfl⟩
  | x :: l, k, h => by
    have A := atK_map (f := Ex.enc) h (len_max hl)
    have A' := atK h (len_max hl)
    obtain ⟨n, ih⟩ := l115 hl l (k + 1) A'.drop
    have h114 := e114 x.kind x.num x.text (x.names.map .str) x.types (x.args.map Ex.enc) (x.arms.map eArm) x.at_
    rw [← ex_enc x] at h114
    rw [e115_1014]
    simp only [A.lt, A.ge, A.get, A.next, cond_true, Option.bind_some]
    simp only [ex_fits, ex_eta, cond_true, List.append_nil, List.map_cons, List.map_nil, h114, Option.bind_some, retPV_pv, fits_bool, toBool_bool]
    cases x.kind == 11 with
    | true => exact ⟨_, rfl⟩
    | false => exact ⟨n, ih⟩
theorem v107 {e : Ex} (hb : bk e.enc ≤ BIG) : ∃ b : Bool, V 107 [.pv e.enc] = some (.pv (.bool b), []) := by
  obtain ⟨h1, h2, h3⟩ := wk_of hb
  obtain ⟨n, hn⟩ := l115 h2 (wk e) 0 rfl
  have h113 : V 113 [.pv (.lst ((wk e).map Ex.enc)), .pv (.fn 114 [])] = some (.pv (.bool (decide (n ≥ 0))), []) := by
    rw [e113, e115]
    rw [show L115_1014 ((wk e).map Ex.enc) 114 [] 0 = _ from hn]
    rfl
  have he := ex_enc e
  rw [he] at h1 ⊢
  rw [e107, h1]
  simp only [Option.bind_some, retPV_bld, fits_lstS, toLst_lst, cond_true, h113]
  exact ⟨_, rfl⟩

/-! #### Functions, bodies -/
def funs (p : Pq) : List Fu := p.is.flatMap (·.2.2) ++ p.fs
def lenI (l : List Im) : Nat := (l.flatMap (·.2.2)).length
theorem lenI_le (l : List Im) : lenI l ≤ bkL (l.map eIm) := by
  induction l with
  | nil => simp [lenI]
  | cons x l ih =>
    have h1 := bk_im x
    have h2 := len_map eFu x.2.2
    unfold lenI at ih ⊢
    rw [List.map_cons, bkL_cons, List.flatMap_cons, List.length_append]; omega
theorem funs_len {p : Pq} (hb : bk p.enc ≤ BIG) : (funs p).length ≤ BIG := by
  have h1 := bk_pq p
  have h2 := len_map eFu p.fs
  have h3 := lenI_le p.is
  unfold funs lenI at *
  rw [List.length_append]; omega
theorem funs_bk {p : Pq} (hb : bk p.enc ≤ BIG) : ∀ f, f ∈ funs p → bk f.body.enc ≤ BIG := by
  intro f hf
  have h1 := bk_pq p
  have h4 := bk_fu f
  unfold funs at hf
  rcases List.mem_append.1 hf with hf | hf
  · obtain ⟨i, hi, hf⟩ := List.mem_flatMap.1 hf
    have h2 := bk_mem (List.mem_map.2 ⟨i, hi, rfl⟩ : eIm i ∈ p.is.map eIm)
    have h3 := bk_mem (List.mem_map.2 ⟨f, hf, rfl⟩ : eFu f ∈ i.2.2.map eFu)
    have h5 := bk_im i
    omega
  · have h3 := bk_mem (List.mem_map.2 ⟨f, hf, rfl⟩ : eFu f ∈ p.fs.map eFu)
    omega
theorem l88 {p : Pq} (hl : p.is.length ≤ BIG) (hf : p.fs.length ≤ BIG) : ∀ (l : List Im) (k : Nat) (acc : List Fu), p.is.drop k = l → acc.length + lenI l ≤ 4 * BIG →
    L88_11014 (acc.map eFu) (p.is.map eIm) k p.nm p.ver p.us (p.ds.map eDt) (p.ts.map eTr) (p.fs.map eFu) (p.ac.map eAc) = some (.bld 15 ((acc ++ l.flatMap (·.2.2) ++ p.fs).map eFu), [])
  | [], k, acc, h, hac => by
    have hs : small (acc.map eFu).length (p.fs.map eFu).length 272 = true := small_of (by simp only [BIG] at hac hf; simp at hac ⊢; omega)
    rw [e88_11014, endK_map h]
    simp only [cond_false, headOk_fu, hs, cond_true]
    simp
  | x :: l, k, acc, h, hac => by
    have A := atK_map (f := eIm) h (len_max hl)
    have A' := atK h (len_max hl)
    have hx : lenI (x :: l) = x.2.2.length + lenI l := by unfold lenI; rw [List.flatMap_cons, List.length_append]
    rw [hx] at hac
    have ih := l88 hl hf l (k + 1) (acc ++ x.2.2) A'.drop (by simp; omega)
    have hs : small (acc.map eFu).length (x.2.2.map eFu).length 272 = true := small_of (by simp only [BIG] at hac; simp; omega)
    rw [e88_11014]
    simp only [A.lt, A.ge, A.get, A.next, cond_true, Option.bind_some]
    simp only [im_fits, im_2, cond_true, headOk_fu, hs]
    rw [← List.map_append, ih]
    simp
theorem v88 {p : Pq} (hb : bk p.enc ≤ BIG) : V 88 [.pv p.enc] = some (.bld 15 ((funs p).map eFu), []) := by
  have h1 := bk_pq p
  have h2 := len_map eIm p.is
  have h3 := len_map eFu p.fs
  have h4 := lenI_le p.is
  rw [pq_enc, e88]
  exact l88 (by omega) (by omega) p.is 0 [] rfl (by simp; omega)
theorem l52' {p : Pq} (hl : p.is.length ≤ BIG) (hf : p.fs.length ≤ BIG) : ∀ (l : List Im) (k : Nat) (acc : List Fu), p.is.drop k = l → acc.length + lenI l ≤ 4 * BIG →
    L52_11014 (acc.map eFu) (p.is.map eIm) k p.nm p.ver p.us (p.ds.map eDt) (p.ts.map eTr) (p.fs.map eFu) (p.ac.map eAc) = some (.bld 15 ((acc ++ l.flatMap (·.2.2) ++ p.fs).map eFu), [])
  | [], k, acc, h, hac => by
    have hs : small (acc.map eFu).length (p.fs.map eFu).length 272 = true := small_of (by simp only [BIG] at hac hf; simp at hac ⊢; omega)
    rw [e52_11014, endK_map h]
    simp only [cond_false, headOk_fu, hs, cond_true]
    simp
  | x :: l, k, acc, h, hac => by
    have A := atK_map (f := eIm) h (len_max hl)
    have A' := atK h (len_max hl)
    have hx : lenI (x :: l) = x.2.2.length + lenI l := by unfold lenI; rw [List.flatMap_cons, List.length_append]
    rw [hx] at hac
    have ih := l52' hl hf l (k + 1) (acc ++ x.2.2) A'.drop (by simp; omega)
    have hs : small (acc.map eFu).length (x.2.2.map eFu).length 272 = true := small_of (by simp only [BIG] at hac; simp; omega)
    rw [e52_11014]
    simp only [A.lt, A.ge, A.get, A.next, cond_true, Option.bind_some]
    simp only [im_fits, im_2, cond_true, headOk_fu, hs]
    rw [← List.map_append, ih]
    simp
theorem v52' {p : Pq} (hb : bk p.enc ≤ BIG) : V 52 [.pv p.enc] = some (.bld 15 ((funs p).map eFu), []) := by
  have h1 := bk_pq p
  have h2 := len_map eIm p.is
  have h3 := len_map eFu p.fs
  have h4 := lenI_le p.is
  rw [pq_enc, e52]
  exact l52' (by omega) (by omega) p.is 0 [] rfl (by simp; omega)
def bodies (p : Pq) : List Ex := (funs p).map (·.body) ++ p.ac.map (·.body)
theorem l90c {ac : List Ac} (hl : ac.length ≤ BIG) : ∀ (l : List Ac) (k : Nat) (acc : List Ex), ac.drop k = l → acc.length + l.length ≤ 8 * BIG → L90_1111014 (acc.map Ex.enc) (ac.map eAc) k = some (.bld 8 ((acc ++ l.map (·.body)).map Ex.enc), [])
  | [], k, acc, h, hac => by rw [e90_1111014, endK_map h]; simp
  | x :: l, k, acc, h, hac => by
    have A := atK_map (f := eAc) h (len_max hl)
    have A' := atK h (len_max hl)
    have ih := l90c hl l (k + 1) (acc ++ [x.body]) A'.drop (by simp at hac ⊢; omega)
    have hs : small (acc.map Ex.enc).length 1 136 = true := small_of (by simp only [BIG] at hac; simp at hac ⊢; omega)
    rw [e90_1111014]
    simp only [A.lt, A.ge, A.get, A.next, cond_true, Option.bind_some]
    simp only [ac_fits, ac_ex, cond_true, hs]
    rw [show acc.map Ex.enc ++ [x.body.enc] = (acc ++ [x.body]).map Ex.enc by simp, ih]
    simp
theorem l90b {p : Pq} (hl : p.fs.length ≤ BIG) (ha : p.ac.length ≤ BIG) : ∀ (l : List Fu) (k : Nat) (acc : List Ex), p.fs.drop k = l → acc.length + l.length ≤ 6 * BIG → L90_111014 (acc.map Ex.enc) (p.fs.map eFu) k p.nm p.ver p.us (p.ds.map eDt) (p.ts.map eTr) (p.is.map eIm) (p.ac.map eAc) = some (.bld 8 ((acc ++ l.map (·.body) ++ p.ac.map (·.body)).map Ex.enc), [])
  | [], k, acc, h, hac => by
    rw [e90_111014, endK_map h]
    have := l90c ha p.ac 0 acc rfl (by simp at hac; omega)
    simp only [cond_false]
    rw [show L90_1111014 (acc.map Ex.enc) (p.ac.map eAc) 0 = _ from this]
    simp
  | x :: l, k, acc, h, hac => by
    have A := atK_map (f := eFu) h (len_max hl)
    have A' := atK h (len_max hl)
    have ih := l90b hl ha l (k + 1) (acc ++ [x.body]) A'.drop (by simp at hac ⊢; omega)
    have hs : small (acc.map Ex.enc).length 1 136 = true := small_of (by simp only [BIG] at hac; simp at hac ⊢; omega)
    rw [e90_111014]
    simp only [A.lt, A.ge, A.get, A.next, cond_true, Option.bind_some]
    simp only [fu_fits, fu_ex, cond_true, hs]
    rw [show acc.map Ex.enc ++ [x.body.enc] = (acc ++ [x.body]).map Ex.enc by simp, ih]
    simp
theorem l90i {p : Pq} {fs : List Fu} (hl : fs.length ≤ BIG) (i1 : Int) : ∀ (l : List Fu) (k : Nat) (acc : List Ex), fs.drop k = l → acc.length + l.length ≤ 4 * BIG →
    L90_1101451104114 (acc.map Ex.enc) (p.is.map eIm) i1 (fs.map eFu) k p.nm p.ver p.us (p.ds.map eDt) (p.ts.map eTr) (p.fs.map eFu) (p.ac.map eAc) = L90_11014 ((acc ++ l.map (·.body)).map Ex.enc) (p.is.map eIm) (IntKind.i64.wrap (i1 + 1)) p.nm p.ver p.us (p.ds.map eDt) (p.ts.map eTr) (p.fs.map eFu) (p.ac.map eAc)
  | [], k, acc, h, hac => by rw [e90_1101451104114, endK_map h]; simp
  | x :: l, k, acc, h, hac => by
    have A := atK_map (f := eFu) h (len_max hl)
    have A' := atK h (len_max hl)
    have ih := l90i (p := p) hl i1 l (k + 1) (acc ++ [x.body]) A'.drop (by simp at hac ⊢; omega)
    have hs : small (acc.map Ex.enc).length 1 136 = true := small_of (by simp only [BIG] at hac; simp at hac ⊢; omega)
    rw [e90_1101451104114]
    simp only [A.lt, A.ge, A.get, A.next, cond_true, Option.bind_some]
    simp only [fu_fits, fu_ex, cond_true, hs]
    rw [show acc.map Ex.enc ++ [x.body.enc] = (acc ++ [x.body]).map Ex.enc by simp, ih]
    simp
theorem l90 {p : Pq} (hl : p.is.length ≤ BIG) (hf : p.fs.length ≤ BIG) (ha : p.ac.length ≤ BIG) (hi : ∀ x, x ∈ p.is → x.2.2.length ≤ BIG) : ∀ (l : List Im) (k : Nat) (acc : List Ex), p.is.drop k = l → acc.length + lenI l ≤ 2 * BIG →
    L90_11014 (acc.map Ex.enc) (p.is.map eIm) k p.nm p.ver p.us (p.ds.map eDt) (p.ts.map eTr) (p.fs.map eFu) (p.ac.map eAc) = some (.bld 8 ((acc ++ (l.flatMap (·.2.2)).map (·.body) ++ p.fs.map (·.body) ++ p.ac.map (·.body)).map Ex.enc), [])
  | [], k, acc, h, hac => by
    rw [e90_11014, endK_map h]
    have := l90b hf ha p.fs 0 acc rfl (by simp [lenI] at hac; omega)
    simp only [cond_false]
    rw [show L90_111014 (acc.map Ex.enc) (p.fs.map eFu) 0 p.nm p.ver p.us (p.ds.map eDt) (p.ts.map eTr) (p.is.map eIm) (p.ac.map eAc) = _ from this]
    simp
  | x :: l, k, acc, h, hac => by
    have A := atK_map (f := eIm) h (len_max hl)
    have A' := atK h (len_max hl)
    have hx : lenI (x :: l) = x.2.2.length + lenI l := by unfold lenI; rw [List.flatMap_cons, List.length_append]
    rw [hx] at hac
    have ih := l90 hl hf ha hi l (k + 1) (acc ++ x.2.2.map (·.body)) A'.drop (by simp; omega)
    have hin := l90i (p := p) (hi x (mem_drop h)) (k : Int) x.2.2 0 acc rfl (by omega)
    rw [A.next] at hin
    rw [e90_11014]
    simp only [A.lt, A.ge, A.get, cond_true, Option.bind_some]
    simp only [im_fits, im_2, cond_true]
    rw [show L90_1101451104114 (acc.map Ex.enc) (p.is.map eIm) k (x.2.2.map eFu) 0 p.nm p.ver p.us (p.ds.map eDt) (p.ts.map eTr) (p.fs.map eFu) (p.ac.map eAc) = _ from hin, ih]
    simp
theorem v90 {p : Pq} (hb : bk p.enc ≤ BIG) : V 90 [.pv p.enc] = some (.bld 8 ((bodies p).map Ex.enc), []) := by
  have h1 := bk_pq p
  have h2 := len_map eIm p.is
  have h3 := len_map eFu p.fs
  have h4 := lenI_le p.is
  have h5 := len_map eAc p.ac
  have h := l90 (p := p) (by omega) (by omega) (by omega) (fun x hx => by
    have h6 := bk_mem (List.mem_map.2 ⟨x, hx, rfl⟩ : eIm x ∈ p.is.map eIm)
    have h7 := bk_im x
    have h8 := len_map eFu x.2.2
    omega) p.is 0 [] rfl (by simp; omega)
  rw [pq_enc, e90]
  rw [show L90_11014 [] (p.is.map eIm) 0 p.nm p.ver p.us (p.ds.map eDt) (p.ts.map eTr) (p.fs.map eFu) (p.ac.map eAc) = _ from h]
  simp [bodies, funs]
theorem bodies_bk {p : Pq} (hb : bk p.enc ≤ BIG) : ∀ e, e ∈ bodies p → bk e.enc ≤ BIG := by
  intro e he
  unfold bodies at he
  rcases List.mem_append.1 he with he | he
  · obtain ⟨f, hf, rfl⟩ := List.mem_map.1 he
    exact funs_bk hb f hf
  · obtain ⟨f, hf, rfl⟩ := List.mem_map.1 he
    have h1 := bk_pq p
    have h2 := bk_mem (List.mem_map.2 ⟨f, hf, rfl⟩ : eAc f ∈ p.ac.map eAc)
    have h3 := bk_ac f
    omega
theorem bodies_len {p : Pq} (hb : bk p.enc ≤ BIG) : (bodies p).length ≤ 2 * BIG := by
  have h1 := funs_len hb
  have h2 := bk_pq p
  have h5 := len_map eAc p.ac
  unfold bodies
  simp; omega
end Go.AL.S1
