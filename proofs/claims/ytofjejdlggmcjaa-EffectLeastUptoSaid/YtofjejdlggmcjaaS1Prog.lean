/- Programs: their functions, actors, bodies; the names that they declare. -/
import Derived.Test.YtofjejdlggmcjaaS1EScope
import Derived.Test.YtofjejdlggmcjaaS1Tree2
import Derived.Test.YtofjejdlggmcjaaS1Ty
set_option linter.unusedVariables false
set_option linter.unusedSimpArgs false
namespace Go.AL.S1
open Go Go.AL

structure Fu where
  nm : Str
  a : List PV
  b : List PV
  c : List PV
  k : Int
  t : Str
  d : List PV
  body : Ex
def eFu (f : Fu) : PV := .agg ([.str f.nm, .lst f.a, .lst f.b, .lst f.c, .int .i64 f.k, .str f.t, .lst f.d] ++ f.body.cells)
structure Ac where
  nm : Str
  a : List PV
  b : List PV
  k : Int
  t : Str
  d : List PV
  body : Ex
def eAc (f : Ac) : PV := .agg ([.str f.nm, .lst f.a, .lst f.b, .int .i64 f.k, .str f.t, .lst f.d] ++ f.body.cells)
abbrev Mk := Str × List PV
def eMk (m : Mk) : PV := .agg [.str m.1, .lst m.2]
abbrev Dt := Str × List PV × List Mk
def eDt (x : Dt) : PV := .agg [.str x.1, .lst x.2.1, .lst (x.2.2.map eMk)]
abbrev Tr := Str × List Fu
def eTr (x : Tr) : PV := .agg [.str x.1, .lst (x.2.map eFu)]
abbrev Im := Str × Str × List Fu
def eIm (x : Im) : PV := .agg [.str x.1, .str x.2.1, .lst (x.2.2.map eFu)]
structure Pq where
  nm : Str
  ver : Int
  us : List PV
  ds : List Dt
  ts : List Tr
  is : List Im
  fs : List Fu
  ac : List Ac
def Pq.cells (p : Pq) : List PV := [.str p.nm, .int .i64 p.ver, .lst p.us, .lst (p.ds.map eDt), .lst (p.ts.map eTr), .lst (p.is.map eIm), .lst (p.fs.map eFu), .lst (p.ac.map eAc)]
def Pq.enc (p : Pq) : PV := .agg p.cells
theorem pq_enc (p : Pq) : p.enc = .agg [.str p.nm, .int .i64 p.ver, .lst p.us, .lst (p.ds.map eDt), .lst (p.ts.map eTr), .lst (p.is.map eIm), .lst (p.fs.map eFu), .lst (p.ac.map eAc)] := rfl
theorem fu_enc (f : Fu) : eFu f = .agg [.str f.nm, .lst f.a, .lst f.b, .lst f.c, .int .i64 f.k, .str f.t, .lst f.d, .int .i64 f.body.kind, .int .i64 f.body.num, .str f.body.text, .lst (f.body.names.map .str), .lst f.body.types, .lst (f.body.args.map Ex.enc), .lst (f.body.arms.map eArm), .int .i64 f.body.at_] := by rw [eFu, ex_cells]; rfl
theorem ac_enc (f : Ac) : eAc f = .agg [.str f.nm, .lst f.a, .lst f.b, .int .i64 f.k, .str f.t, .lst f.d, .int .i64 f.body.kind, .int .i64 f.body.num, .str f.body.text, .lst (f.body.names.map .str), .lst f.body.types, .lst (f.body.args.map Ex.enc), .lst (f.body.arms.map eArm), .int .i64 f.body.at_] := by rw [eAc, ex_cells]; rfl
theorem fu_fits (f : Fu) : (Sh.agg [Sh.str, Sh.lst, Sh.lst, Sh.lst, Sh.int .i64, Sh.str, Sh.lst, Sh.int .i64, Sh.int .i64, Sh.str, Sh.lst, Sh.lst, Sh.lst, Sh.lst, Sh.int .i64]).fits (eFu f) = true := by rw [fu_enc]; rfl
theorem ac_fits (f : Ac) : (Sh.agg [Sh.str, Sh.lst, Sh.lst, Sh.int .i64, Sh.str, Sh.lst, Sh.int .i64, Sh.int .i64, Sh.str, Sh.lst, Sh.lst, Sh.lst, Sh.lst, Sh.int .i64]).fits (eAc f) = true := by rw [ac_enc]; rfl
theorem fu_nm (f : Fu) : ((eFu f).c 0).toStr = f.nm := by rw [fu_enc]; rfl
theorem ac_nm (f : Ac) : ((eAc f).c 0).toStr = f.nm := by rw [ac_enc]; rfl
theorem fu_ex (f : Fu) : PV.agg [.int .i64 ((eFu f).c 7).toInt, .int .i64 ((eFu f).c 8).toInt, .str ((eFu f).c 9).toStr, .lst ((eFu f).c 10).toLst, .lst ((eFu f).c 11).toLst, .lst ((eFu f).c 12).toLst, .lst ((eFu f).c 13).toLst, .int .i64 ((eFu f).c 14).toInt] = f.body.enc := by rw [fu_enc, ex_enc]; rfl
theorem ac_ex (f : Ac) : PV.agg [.int .i64 ((eAc f).c 6).toInt, .int .i64 ((eAc f).c 7).toInt, .str ((eAc f).c 8).toStr, .lst ((eAc f).c 9).toLst, .lst ((eAc f).c 10).toLst, .lst ((eAc f).c 11).toLst, .lst ((eAc f).c 12).toLst, .int .i64 ((eAc f).c 13).toInt] = f.body.enc := by rw [ac_enc, ex_enc]; rfl
theorem mk_fits (m : Mk) : (Sh.agg [Sh.str, Sh.lst]).fits (eMk m) = true := nrfl rfl
theorem mk_nm (m : Mk) : ((eMk m).c 0).toStr = m.1 := nrfl rfl
theorem dt_fits (m : Dt) : (Sh.agg [Sh.str, Sh.lst, Sh.lst]).fits (eDt m) = true := nrfl rfl
theorem dt_2 (m : Dt) : ((eDt m).c 2).toLst = m.2.2.map eMk := nrfl rfl
theorem tr_fits (m : Tr) : (Sh.agg [Sh.str, Sh.lst]).fits (eTr m) = true := nrfl rfl
theorem tr_1 (m : Tr) : ((eTr m).c 1).toLst = m.2.map eFu := nrfl rfl
theorem im_fits (m : Im) : (Sh.agg [Sh.str, Sh.str, Sh.lst]).fits (eIm m) = true := nrfl rfl
theorem im_2 (m : Im) : ((eIm m).c 2).toLst = m.2.2.map eFu := nrfl rfl

theorem bkL_cons (p : PV) (l : List PV) : bkL (p :: l) = bk p + bkL l := by simp only [bkL]
theorem bk_mem {p : PV} {l : List PV} (h : p ∈ l) : bk p ≤ bkL l := by
  induction l with
  | nil => cases h
  | cons a l ih =>
    rw [bkL_cons]
    rcases List.mem_cons.1 h with rfl | h
    · omega
    · have := ih h; omega
theorem bk_one (p : PV) : 1 ≤ bk p := by cases p <;> simp [bk]
theorem len_bkL (l : List PV) : l.length ≤ bkL l := by
  induction l with
  | nil => simp
  | cons a l ih => rw [bkL_cons]; have := bk_one a; simp; omega
theorem len_map {α : Type} (f : α → PV) (l : List α) : l.length ≤ bkL (l.map f) := by have := len_bkL (l.map f); simpa using this
theorem bk_fu (f : Fu) : bk f.body.enc ≤ bk (eFu f) := by
  unfold eFu Ex.enc
  simp only [bk, bkL_append]; omega
theorem bk_ac (f : Ac) : bk f.body.enc ≤ bk (eAc f) := by
  unfold eAc Ex.enc
  simp only [bk, bkL_append]; omega
theorem bk_tr (x : Tr) : bkL (x.2.map eFu) + 1 ≤ bk (eTr x) := by unfold eTr; simp only [bk, bkL]; omega
theorem bk_im (x : Im) : bkL (x.2.2.map eFu) + 1 ≤ bk (eIm x) := by unfold eIm; simp only [bk, bkL]; omega
theorem bk_dt (x : Dt) : bkL (x.2.2.map eMk) + 1 ≤ bk (eDt x) := by unfold eDt; simp only [bk, bkL]; omega
theorem bk_pq (p : Pq) : bkL (p.ds.map eDt) + bkL (p.ts.map eTr) + bkL (p.is.map eIm) + bkL (p.fs.map eFu) + bkL (p.ac.map eAc) + 1 ≤ bk p.enc := by
  rw [pq_enc]; simp only [bk, bkL]; omega
theorem headOk_str (l : List Str) : headOk 1 (l.map .str) = true := by cases l <;> rfl
theorem headOk_fu (l : List Fu) : headOk 15 (l.map eFu) = true := by
  cases l with
  | nil => rfl
  | cons f l => simp [headOk, fu_enc, PV.cells]

/-- It answers with names. -/
def NamesR (o : Option Out) (n : Nat) : Prop := ∃ r : List Str, o.bind retPV = some (.lst (r.map .str)) ∧ r.length ≤ n
theorem namesR_bld (r : List Str) : NamesR (some (.bld 1 (r.map .str), [])) r.length := ⟨r, rfl, Nat.le_refl _⟩
theorem NamesR.mono {o : Option Out} {n m : Nat} (h : NamesR o n) (hm : n ≤ m) : NamesR o m := by obtain ⟨r, h1, h2⟩ := h; exact ⟨r, h1, by omega⟩
theorem l97 {fs : List Fu} (hl : fs.length ≤ BIG) : ∀ (l : List Fu) (k : Nat) (acc : List Str), fs.drop k = l → acc.length + l.length ≤ 2 * BIG → NamesR (L97_11014 (acc.map .str) (fs.map eFu) k) (acc.length + l.length)
  | [], k, acc, h, _ => by rw [e97_11014, endK_map h]; exact namesR_bld acc
  | x :: l, k, acc, h, hb => by
    have A := atK_map (f := eFu) h (len_max hl)
    have A' := atK h (len_max hl)
    have ih := l97 hl l (k + 1) (acc ++ [x.nm]) A'.drop (by simp at hb ⊢; omega)
    have hs : small (acc.map PV.str).length 1 16 = true := small_of (by simp only [BIG] at hb; simp at hb ⊢; omega)
    rw [e97_11014]
    simp only [A.lt, A.ge, A.get, A.next, cond_true, Option.bind_some]
    simp only [fu_fits, fu_nm, cond_true, hs]
    rw [show acc.map PV.str ++ [.str x.nm] = (acc ++ [x.nm]).map .str by simp]
    exact ih.mono (by simp; omega)
theorem v97 {fs : List Fu} (hl : fs.length ≤ BIG) : NamesR (V 97 [.pv (.lst (fs.map eFu))]) fs.length := by
  rw [e97]
  exact (l97 hl fs 0 [] rfl (by simp; omega)).mono (by simp)
theorem l78 {p : Pq} (hl : p.ts.length ≤ BIG) (hf : p.fs.length ≤ BIG) (hb : bkL (p.ts.map eTr) ≤ BIG) : ∀ (l : List Tr) (k : Nat) (acc : List Str), p.ts.drop k = l → acc.length + bkL (l.map eTr) ≤ BIG → NamesR (L78_11014 (acc.map .str) (p.ts.map eTr) k p.nm p.ver p.us (p.ds.map eDt) (p.is.map eIm) (p.fs.map eFu) (p.ac.map eAc)) (2 * BIG)
  | [], k, acc, h, hac => by
    obtain ⟨r, h1, h2⟩ := v97 hf
    have hs : small (acc.map PV.str).length (r.map PV.str).length 16 = true := small_of (by simp only [BIG] at hac hf; simp at hac ⊢; omega)
    rw [e78_11014, endK_map h]
    simp only [cond_false, h1, Option.bind_some, fits_lstS, toLst_lst, cond_true, headOk_str, hs]
    rw [← List.map_append]
    exact (namesR_bld _).mono (by simp at hac ⊢; omega)
  | x :: l, k, acc, h, hac => by
    have A := atK_map (f := eTr) h (len_max hl)
    have A' := atK h (len_max hl)
    rw [List.map_cons, bkL_cons] at hac
    have hx := bk_tr x
    have hx2 := len_map eFu x.2
    obtain ⟨r, h1, h2⟩ := v97 (fs := x.2) (by omega)
    have ih := l78 hl hf hb l (k + 1) (acc ++ r) A'.drop (by simp; omega)
    have hs : small (acc.map PV.str).length (r.map PV.str).length 16 = true := small_of (by simp only [BIG] at hac; simp; omega)
    rw [e78_11014]
    simp only [A.lt, A.ge, A.get, A.next, cond_true, Option.bind_some]
    simp only [tr_fits, tr_1, cond_true, h1, Option.bind_some, fits_lstS, toLst_lst, headOk_str, hs]
    rw [← List.map_append]
    exact ih
theorem v78 {p : Pq} (hb : bk p.enc ≤ BIG) : NamesR (V 78 [.pv p.enc]) (2 * BIG) := by
  have h1 := bk_pq p
  have h2 := len_map eTr p.ts
  have h3 := len_map eFu p.fs
  rw [pq_enc, e78]
  exact l78 (by omega) (by omega) (by omega) p.ts 0 [] rfl (by simp; omega)
theorem l79b {dd : List PV} {ms : List Mk} (hl : ms.length ≤ BIG) (i1 : Int) : ∀ (l : List Mk) (k : Nat) (acc : List Str), ms.drop k = l → acc.length + l.length ≤ 2 * BIG →
    ∃ r : List Str, L79_1101451104114 (acc.map .str) dd i1 (ms.map eMk) k = L79_11014 (r.map .str) dd (IntKind.i64.wrap (i1 + 1)) ∧ r.length = acc.length + l.length
  | [], k, acc, h, _ => ⟨acc, by rw [e79_1101451104114, endK_map h]; rfl, by simp⟩
  | x :: l, k, acc, h, hb => by
    have A := atK_map (f := eMk) h (len_max hl)
    have A' := atK h (len_max hl)
    obtain ⟨r, g1, g2⟩ := l79b (dd := dd) hl i1 l (k + 1) (acc ++ [x.1]) A'.drop (by simp at hb ⊢; omega)
    have hs : small (acc.map PV.str).length 1 16 = true := small_of (by simp only [BIG] at hb; simp at hb ⊢; omega)
    refine ⟨r, ?_, by simp at g2 ⊢; omega⟩
    rw [e79_1101451104114]
    simp only [A.lt, A.ge, A.get, A.next, cond_true, Option.bind_some]
    simp only [mk_fits, mk_nm, cond_true, hs]
    rw [show acc.map PV.str ++ [.str x.1] = (acc ++ [x.1]).map .str by simp]
    exact g1
theorem l79 {ds : List Dt} (hl : ds.length ≤ BIG) : ∀ (l : List Dt) (k : Nat) (acc : List Str), ds.drop k = l → acc.length + bkL (l.map eDt) ≤ BIG → NamesR (L79_11014 (acc.map .str) (ds.map eDt) k) (2 * BIG)
  | [], k, acc, h, hac => by
    rw [e79_11014, endK_map h]
    exact (namesR_bld acc).mono (by simp at hac; omega)
  | x :: l, k, acc, h, hac => by
    have A := atK_map (f := eDt) h (len_max hl)
    have A' := atK h (len_max hl)
    rw [List.map_cons, bkL_cons] at hac
    have hx := bk_dt x
    have hx2 := len_map eMk x.2.2
    obtain ⟨r, g1, g2⟩ := l79b (dd := ds.map eDt) (ms := x.2.2) (by omega) (k : Int) x.2.2 0 acc rfl (by omega)
    have ih := l79 hl l (k + 1) r A'.drop (by omega)
    rw [e79_11014]
    simp only [A.lt, A.ge, A.get, cond_true, Option.bind_some]
    simp only [dt_fits, dt_2, cond_true]
    rw [A.next] at g1
    exact (congrArg (NamesR · (2 * BIG)) g1).mpr ih
theorem v79 {p : Pq} (hb : bk p.enc ≤ BIG) : NamesR (V 79 [.pv p.enc]) (2 * BIG) := by
  have h1 := bk_pq p
  have h2 := len_map eDt p.ds
  rw [pq_enc, e79]
  exact l79 (by omega) p.ds 0 [] rfl (by simp; omega)
theorem l80 {fs : List Ac} (hl : fs.length ≤ BIG) : ∀ (l : List Ac) (k : Nat) (acc : List Str), fs.drop k = l → acc.length + l.length ≤ 2 * BIG → NamesR (L80_11014 (acc.map .str) (fs.map eAc) k) (acc.length + l.length)
  | [], k, acc, h, _ => by rw [e80_11014, endK_map h]; exact namesR_bld acc
  | x :: l, k, acc, h, hb => by
    have A := atK_map (f := eAc) h (len_max hl)
    have A' := atK h (len_max hl)
    have ih := l80 hl l (k + 1) (acc ++ [x.nm]) A'.drop (by simp at hb ⊢; omega)
    have hs : small (acc.map PV.str).length 1 16 = true := small_of (by simp only [BIG] at hb; simp at hb ⊢; omega)
    rw [e80_11014]
    simp only [A.lt, A.ge, A.get, A.next, cond_true, Option.bind_some]
    simp only [ac_fits, ac_nm, cond_true, hs]
    rw [show acc.map PV.str ++ [.str x.nm] = (acc ++ [x.nm]).map .str by simp]
    exact ih.mono (by simp; omega)
theorem v80 {p : Pq} (hb : bk p.enc ≤ BIG) : NamesR (V 80 [.pv p.enc]) (2 * BIG) := by
  have h1 := bk_pq p
  have h2 := len_map eAc p.ac
  rw [pq_enc, e80]
  exact (l80 (by omega) p.ac 0 [] rfl (by simp; omega)).mono (by simp; omega)

/-! #### Functions, bodies -/
def FusR (o : Option Out) (n : Nat) : Prop := ∃ r : List Fu, o.bind retPV = some (.lst (r.map eFu)) ∧ r.length ≤ n ∧ ∀ f, f ∈ r → bk (eFu f) ≤ n
theorem l52 {p : Pq} (hl : p.is.length ≤ BIG) (hf : bkL (p.fs.map eFu) ≤ BIG) : ∀ (l : List Im) (k : Nat) (acc : List Fu), p.is.drop k = l → acc.length + bkL (l.map eIm) + bkL (p.fs.map eFu) ≤ BIG → (∀ f, f ∈ acc → bk (eFu f) ≤ BIG) →
    FusR (L52_11014 (acc.map eFu) (p.is.map eIm) k p.nm p.ver p.us (p.ds.map eDt) (p.ts.map eTr) (p.fs.map eFu) (p.ac.map eAc)) BIG
  | [], k, acc, h, hac, hm => by
    have hlf := len_map eFu p.fs
    have hs : small (acc.map eFu).length (p.fs.map eFu).length 272 = true := small_of (by simp only [BIG] at hac; simp at hac ⊢; omega)
    rw [e52_11014, endK_map h]
    simp only [cond_false, headOk_fu, hs, cond_true]
    rw [← List.map_append]
    refine ⟨_, rfl, by simp at hac ⊢; omega, fun f hm' => ?_⟩
    rcases List.mem_append.1 hm' with hm' | hm'
    · exact hm f hm'
    · have := bk_mem (List.mem_map.2 ⟨f, hm', rfl⟩ : eFu f ∈ p.fs.map eFu); omega
  | x :: l, k, acc, h, hac, hm => by
    have A := atK_map (f := eIm) h (len_max hl)
    have A' := atK h (len_max hl)
    rw [List.map_cons, bkL_cons] at hac
    have hx := bk_im x
    have hx2 := len_map eFu x.2.2
    have ih := l52 hl hf l (k + 1) (acc ++ x.2.2) A'.drop (by simp; omega) (fun f hm' => by
      rcases List.mem_append.1 hm' with hm' | hm'
      · exact hm f hm'
      · have := bk_mem (List.mem_map.2 ⟨f, hm', rfl⟩ : eFu f ∈ x.2.2.map eFu); omega)
    have hs : small (acc.map eFu).length (x.2.2.map eFu).length 272 = true := small_of (by simp only [BIG] at hac; simp; omega)
    rw [e52_11014]
    simp only [A.lt, A.ge, A.get, A.next, cond_true, Option.bind_some]
    simp only [im_fits, im_2, cond_true, headOk_fu, hs]
    rw [← List.map_append]
    exact ih
theorem v52 {p : Pq} (hb : bk p.enc ≤ BIG) : FusR (V 52 [.pv p.enc]) BIG := by
  have h1 := bk_pq p
  have h2 := len_map eIm p.is
  rw [pq_enc, e52]
  exact l52 (by omega) (by omega) p.is 0 [] rfl (by simp; omega) (by simp)
def ExsR (o : Option Out) (n : Nat) : Prop := ∃ r : List Ex, o.bind retPV = some (.lst (r.map Ex.enc)) ∧ r.length ≤ n ∧ ∀ f, f ∈ r → bk f.enc ≤ BIG
theorem l38b {ac : List Ac} (hl : ac.length ≤ BIG) (hba : bkL (ac.map eAc) ≤ BIG) : ∀ (l : List Ac) (k : Nat) (acc : List Ex), ac.drop k = l → acc.length + l.length ≤ 2 * BIG → (∀ f, f ∈ acc → bk f.enc ≤ BIG) → ExsR (L38_111014 (acc.map Ex.enc) (ac.map eAc) k) (2 * BIG)
  | [], k, acc, h, hac, hm => by
    rw [e38_111014, endK_map h]
    exact ⟨acc, rfl, by simp at hac; omega, hm⟩
  | x :: l, k, acc, h, hac, hm => by
    have A := atK_map (f := eAc) h (len_max hl)
    have A' := atK h (len_max hl)
    have hbx := bk_mem (List.mem_map.2 ⟨x, mem_drop h, rfl⟩ : eAc x ∈ ac.map eAc)
    have hbx2 := bk_ac x
    have ih := l38b hl hba l (k + 1) (acc ++ [x.body]) A'.drop (by simp at hac ⊢; omega) (fun f hm' => by
      rcases List.mem_append.1 hm' with hm' | hm'
      · exact hm f hm'
      · obtain rfl := List.mem_singleton.1 hm'; omega)
    have hs : small (acc.map Ex.enc).length 1 136 = true := small_of (by simp only [BIG] at hac; simp at hac ⊢; omega)
    rw [e38_111014]
    simp only [A.lt, A.ge, A.get, A.next, cond_true, Option.bind_some]
    simp only [ac_fits, ac_ex, cond_true, hs]
    rw [show acc.map Ex.enc ++ [x.body.enc] = (acc ++ [x.body]).map Ex.enc by simp]
    exact ih
theorem l38 {p : Pq} {fs : List Fu} (hl : fs.length ≤ BIG) (hla : p.ac.length ≤ BIG) (hba : bkL (p.ac.map eAc) ≤ BIG) (hbf : ∀ f, f ∈ fs → bk (eFu f) ≤ BIG) : ∀ (l : List Fu) (k : Nat) (acc : List Ex), fs.drop k = l → acc.length + l.length ≤ BIG → (∀ f, f ∈ acc → bk f.enc ≤ BIG) →
    ExsR (L38_11014 (acc.map Ex.enc) (fs.map eFu) k p.nm p.ver p.us (p.ds.map eDt) (p.ts.map eTr) (p.is.map eIm) (p.fs.map eFu) (p.ac.map eAc)) (2 * BIG)
  | [], k, acc, h, hac, hm => by
    rw [e38_11014, endK_map h]
    exact l38b hla hba p.ac 0 acc rfl (by simp at hac; omega) hm
  | x :: l, k, acc, h, hac, hm => by
    have A := atK_map (f := eFu) h (len_max hl)
    have A' := atK h (len_max hl)
    have hbx := hbf x (mem_drop h)
    have hbx2 := bk_fu x
    have ih := l38 hl hla hba hbf l (k + 1) (acc ++ [x.body]) A'.drop (by simp at hac ⊢; omega) (fun f hm' => by
      rcases List.mem_append.1 hm' with hm' | hm'
      · exact hm f hm'
      · obtain rfl := List.mem_singleton.1 hm'; omega)
    have hs : small (acc.map Ex.enc).length 1 136 = true := small_of (by simp only [BIG] at hac; simp at hac ⊢; omega)
    rw [e38_11014]
    simp only [A.lt, A.ge, A.get, A.next, cond_true, Option.bind_some]
    simp only [fu_fits, fu_ex, cond_true, hs]
    rw [show acc.map Ex.enc ++ [x.body.enc] = (acc ++ [x.body]).map Ex.enc by simp]
    exact ih
theorem v38 {p : Pq} (hb : bk p.enc ≤ BIG) : ExsR (V 38 [.pv p.enc]) (2 * BIG) := by
  have h1 := bk_pq p
  have h2 := len_map eAc p.ac
  obtain ⟨r, g1, g2, g3⟩ := v52 hb
  rw [pq_enc] at g1 ⊢
  rw [e38, g1]
  simp only [Option.bind_some, fits_lstS, toLst_lst, cond_true]
  exact l38 g2 (by omega) (by omega) g3 r 0 [] rfl (by simpa using g2) (by simp)
theorem l36 {P : List Ex} (hl : P.length ≤ maxLen) (hb : ∀ f, f ∈ P → bk f.enc ≤ BIG) : ∀ (l : List Ex) (k : Nat) (i : Int), P.drop k = l → ∃ b : Bool, L36_11014 i (P.map Ex.enc) k = some (.pv (.bool b), [])
  | [], k, i, h => ⟨_, by rw [e36_11014, endK_map h]; rfl⟩
  | x :: l, k, i, h => by
    have A := atK_map (f := Ex.enc) h hl
    have A' := atK h hl
    obtain ⟨n, hn, _⟩ := v43 (hb x (mem_drop h))
    obtain ⟨b, ih⟩ := l36 hl hb l (k + 1) (IntKind.i64.wrap (i + n)) A'.drop
    refine ⟨b, ?_⟩
    rw [e36_11014]
    simp only [A.lt, A.ge, A.get, A.next, cond_true, Option.bind_some]
    simp only [ex_fits, ex_eta, cond_true, hn, Option.bind_some, retPV_pv, fits_i64, toInt_int]
    exact ih
theorem v36 {p : Pq} (hb : bk p.enc ≤ BIG) : ∃ b : Bool, V 36 [.pv p.enc] = some (.pv (.bool b), []) := by
  obtain ⟨r, g1, g2, g3⟩ := v38 hb
  rw [pq_enc] at g1 ⊢
  rw [e36, g1]
  simp only [Option.bind_some, fits_lstS, toLst_lst, cond_true]
  exact l36 (by simp only [BIG] at g2; simp [maxLen]; omega) g3 r 0 0 rfl
theorem v40 {l : List Str} (h : l.length ≤ 8 * BIG) : V 40 [.pv (.lst (l.map .str))] = some (.bld 1 (l.map .str), []) := by
  rw [e40]
  unfold cloneOut
  have h2 : small 0 (l.map PV.str).length 16 = true := small_of (by simp only [BIG] at h; simp; omega)
  rw [headOk_str, h2]
  rfl
end Go.AL.S1
