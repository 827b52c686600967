/- Programs: their functions, actors, bodies; the names that they declare. -/
import Derived.Test.YtlmodlihiglnhaaDoorS10EE
import Derived.Test.YtlmodlihiglnhaaDoorS10EF
import Derived.Test.YtlmodlihiglnhaaDoorS10Free2
set_option linter.unusedVariables false
set_option linter.unusedSimpArgs false
set_option maxRecDepth 20000
namespace Go.AL.S10.Sc
open Go Go.AL Go.AL.S10 Go.AL.S10.Fr

structure Fu where
  nm : Str
  a : List Str
  b : List Str
  c : List PV
  out : Ty
  body : Ex
def eFu (f : Fu) : PV := .agg ([.str f.nm, .lst (f.a.map .str), .lst (f.b.map .str), .lst f.c, .int .i64 f.out.kind, .str f.out.name, .lst (f.out.args.map Ty.enc)] ++ f.body.cells)
structure Ac where
  nm : Str
  a : List Str
  b : List PV
  out : Ty
  body : Ex
def eAc (f : Ac) : PV := .agg ([.str f.nm, .lst (f.a.map .str), .lst f.b, .int .i64 f.out.kind, .str f.out.name, .lst (f.out.args.map Ty.enc)] ++ f.body.cells)
abbrev Mk := Str × List PV
def eMk (m : Mk) : PV := .agg [.str m.1, .lst m.2]
abbrev Dt := Str × List Str × List Mk
def eDt (x : Dt) : PV := .agg [.str x.1, .lst (x.2.1.map .str), .lst (x.2.2.map eMk)]
abbrev Tr := Str × List Fu
def eTr (x : Tr) : PV := .agg [.str x.1, .lst (x.2.map eFu)]
abbrev Im := Str × Str × List Fu
def eIm (x : Im) : PV := .agg [.str x.1, .str x.2.1, .lst (x.2.2.map eFu)]
abbrev Us := Str × Int × Int
def eUs (u : Us) : PV := .agg [.str u.1, .int .i64 u.2.1, .int .i64 u.2.2]
structure Pq where
  nm : Str
  ver : Int
  us : List Us
  ds : List Dt
  ts : List Tr
  is : List Im
  fs : List Fu
  ac : List Ac
def Pq.cells (p : Pq) : List PV := [.str p.nm, .int .i64 p.ver, .lst (p.us.map eUs), .lst (p.ds.map eDt), .lst (p.ts.map eTr), .lst (p.is.map eIm), .lst (p.fs.map eFu), .lst (p.ac.map eAc)]
def Pq.enc (p : Pq) : PV := .agg p.cells
theorem pq_enc (p : Pq) : p.enc = .agg [.str p.nm, .int .i64 p.ver, .lst (p.us.map eUs), .lst (p.ds.map eDt), .lst (p.ts.map eTr), .lst (p.is.map eIm), .lst (p.fs.map eFu), .lst (p.ac.map eAc)] := rfl
theorem fu_enc (f : Fu) : eFu f = .agg [.str f.nm, .lst (f.a.map .str), .lst (f.b.map .str), .lst f.c, .int .i64 f.out.kind, .str f.out.name, .lst (f.out.args.map Ty.enc), .int .i64 f.body.kind, .int .i64 f.body.num, .str f.body.text, .lst (f.body.names.map .str), .lst f.body.types, .lst (f.body.args.map Ex.enc), .lst (f.body.arms.map eArm), .int .i64 f.body.at_] := by rw [eFu, ex_cells]; rfl
theorem ac_enc (f : Ac) : eAc f = .agg [.str f.nm, .lst (f.a.map .str), .lst f.b, .int .i64 f.out.kind, .str f.out.name, .lst (f.out.args.map Ty.enc), .int .i64 f.body.kind, .int .i64 f.body.num, .str f.body.text, .lst (f.body.names.map .str), .lst f.body.types, .lst (f.body.args.map Ex.enc), .lst (f.body.arms.map eArm), .int .i64 f.body.at_] := by rw [eAc, ex_cells]; rfl
theorem fu_fits (f : Fu) : (Sh.agg [Sh.str, Sh.lst, Sh.lst, Sh.lst, Sh.int .i64, Sh.str, Sh.lst, Sh.int .i64, Sh.int .i64, Sh.str, Sh.lst, Sh.lst, Sh.lst, Sh.lst, Sh.int .i64]).fits (eFu f) = true := by rw [fu_enc]; rfl
theorem ac_fits (f : Ac) : (Sh.agg [Sh.str, Sh.lst, Sh.lst, Sh.int .i64, Sh.str, Sh.lst, Sh.int .i64, Sh.int .i64, Sh.str, Sh.lst, Sh.lst, Sh.lst, Sh.lst, Sh.int .i64]).fits (eAc f) = true := by rw [ac_enc]; rfl
theorem fu_nm (f : Fu) : ((eFu f).c 0).toStr = f.nm := by rw [fu_enc]; rfl
theorem ac_nm (f : Ac) : ((eAc f).c 0).toStr = f.nm := by rw [ac_enc]; rfl
theorem fu_ex (f : Fu) : PV.agg [.int .i64 ((eFu f).c 7).toInt, .int .i64 ((eFu f).c 8).toInt, .str ((eFu f).c 9).toStr, .lst ((eFu f).c 10).toLst, .lst ((eFu f).c 11).toLst, .lst ((eFu f).c 12).toLst, .lst ((eFu f).c 13).toLst, .int .i64 ((eFu f).c 14).toInt] = f.body.enc := by rw [fu_enc, ex_enc]; rfl
theorem ac_ex (f : Ac) : PV.agg [.int .i64 ((eAc f).c 6).toInt, .int .i64 ((eAc f).c 7).toInt, .str ((eAc f).c 8).toStr, .lst ((eAc f).c 9).toLst, .lst ((eAc f).c 10).toLst, .lst ((eAc f).c 11).toLst, .lst ((eAc f).c 12).toLst, .int .i64 ((eAc f).c 13).toInt] = f.body.enc := by rw [ac_enc, ex_enc]; rfl
theorem mk_fits (m : Mk) : (Sh.agg [Sh.str, Sh.lst]).fits (eMk m) = true := nrfl rfl
theorem mk_nm (m : Mk) : ((eMk m).c 0).toStr = m.1 := nrfl rfl
theorem dt_fits (m : Dt) : (Sh.agg [Sh.str, Sh.lst, Sh.lst]).fits (eDt m) = true := nrfl rfl
theorem dt_2 (m : Dt) : ((eDt m).c 2).toLst = m.2.2.map eMk := nrfl rfl
theorem tr_fits (m : Tr) : (Sh.agg [Sh.str, Sh.lst]).fits (eTr m) = true := nrfl rfl
theorem tr_1 (m : Tr) : ((eTr m).c 1).toLst = m.2.map eFu := nrfl rfl
theorem im_fits (m : Im) : (Sh.agg [Sh.str, Sh.str, Sh.lst]).fits (eIm m) = true := nrfl rfl
theorem im_2 (m : Im) : ((eIm m).c 2).toLst = m.2.2.map eFu := nrfl rfl

theorem bkL_cons (p : PV) (l : List PV) : bkL (p :: l) = bk p + bkL l := by simp only [bkL]
theorem bk_mem {p : PV} {l : List PV} (h : p ∈ l) : bk p ≤ bkL l := by
  induction l with
  | nil => cases h
  | cons a l ih =>
    rw [bkL_cons]
    rcases List.mem_cons.1 h with rfl | h
    · omega
    · have := ih h; omega
theorem bk_one (p : PV) : 1 ≤ bk p := by cases p <;> simp [bk]
theorem len_bkL (l : List PV) : l.length ≤ bkL l := by
  induction l with
  | nil => simp
  | cons a l ih => rw [bkL_cons]; have := bk_one a; simp; omega
theorem len_map {α : Type} (f : α → PV) (l : List α) : l.length ≤ bkL (l.map f) := by have := len_bkL (l.map f); simpa using this
theorem bk_fu (f : Fu) : bk f.body.enc ≤ bk (eFu f) := by
  unfold eFu Ex.enc
  simp only [bk, bkL_append]; omega
theorem bk_ac (f : Ac) : bk f.body.enc ≤ bk (eAc f) := by
  unfold eAc Ex.enc
  simp only [bk, bkL_append]; omega
theorem bk_tr (x : Tr) : bkL (x.2.map eFu) + 1 ≤ bk (eTr x) := by unfold eTr; simp only [bk, bkL]; omega
theorem bk_im (x : Im) : bkL (x.2.2.map eFu) + 1 ≤ bk (eIm x) := by unfold eIm; simp only [bk, bkL]; omega
theorem bk_dt (x : Dt) : bkL (x.2.2.map eMk) + 1 ≤ bk (eDt x) := by unfold eDt; simp only [bk, bkL]; omega
theorem bk_pq (p : Pq) : bkL (p.ds.map eDt) + bkL (p.ts.map eTr) + bkL (p.is.map eIm) + bkL (p.fs.map eFu) + bkL (p.ac.map eAc) + 1 ≤ bk p.enc := by
  rw [pq_enc]; simp only [bk, bkL]; omega
theorem headOk_fu (l : List Fu) : headOk 15 (l.map eFu) = true := by
  cases l with
  | nil => rfl
  | cons f l => simp [headOk, fu_enc, PV.cells]

/-- It answers with names. -/
def NamesR (o : Option Out) (n : Nat) : Prop := ∃ r : List Str, o.bind retPV = some (.lst (r.map .str)) ∧ r.length ≤ n
theorem namesR_bld (r : List Str) : NamesR (some (.bld 1 (r.map .str), [])) r.length := ⟨r, rfl, Nat.le_refl _⟩
theorem NamesR.mono {o : Option Out} {n m : Nat} (h : NamesR o n) (hm : n ≤ m) : NamesR o m := by obtain ⟨r, h1, h2⟩ := h; exact ⟨r, h1, by omega⟩
theorem l100 {fs : List Fu} (hl : fs.length ≤ BIG) : ∀ (l : List Fu) (k : Nat) (acc : List Str), fs.drop k = l → acc.length + l.length ≤ 2 * BIG → NamesR (L100_11014 (acc.map .str) (fs.map eFu) k) (acc.length + l.length)
  | [], k, acc, h, _ => by rw [e100_11014, endK_map h]; exact namesR_bld acc
  | x :: l, k, acc, h, hb => by
    have A := atK_map (f := eFu) h (len_max hl)
    have A' := atK h (len_max hl)
    have ih := l100 hl l (k + 1) (acc ++ [x.nm]) A'.drop (by simp at hb ⊢; omega)
    have hs : small (acc.map PV.str).length 1 16 = true := small_of (by simp only [BIG] at hb; simp at hb ⊢; omega)
    rw [e100_11014]
    simp only [A.lt, A.ge, A.get, A.next, cond_true, Option.bind_some]
    simp only [fu_fits, fu_nm, cond_true, hs]
    rw [show acc.map PV.str ++ [.str x.nm] = (acc ++ [x.nm]).map .str by simp]
    exact ih.mono (by simp; omega)
theorem v100 {fs : List Fu} (hl : fs.length ≤ BIG) : NamesR (V 100 [.pv (.lst (fs.map eFu))]) fs.length := by
  rw [e100]
  exact (l100 hl fs 0 [] rfl (by simp; omega)).mono (by simp)
theorem l67 {p : Pq} (hl : p.ts.length ≤ BIG) (hf : p.fs.length ≤ BIG) (hb : bkL (p.ts.map eTr) ≤ BIG) : ∀ (l : List Tr) (k : Nat) (acc : List Str), p.ts.drop k = l → acc.length + bkL (l.map eTr) ≤ BIG → NamesR (L67_11014 (acc.map .str) (p.ts.map eTr) k p.nm p.ver (p.us.map eUs) (p.ds.map eDt) (p.is.map eIm) (p.fs.map eFu) (p.ac.map eAc)) (2 * BIG)
  | [], k, acc, h, hac => by
    obtain ⟨r, h1, h2⟩ := v100 hf
    have hs : small (acc.map PV.str).length (r.map PV.str).length 16 = true := small_of (by simp only [BIG] at hac hf; simp at hac ⊢; omega)
    rw [e67_11014, endK_map h]
    simp only [cond_false, h1, Option.bind_some, fits_lstS, toLst_lst, cond_true, headOk_str, hs]
    rw [← List.map_append]
    exact (namesR_bld _).mono (by simp at hac ⊢; omega)
  | x :: l, k, acc, h, hac => by
    have A := atK_map (f := eTr) h (len_max hl)
    have A' := atK h (len_max hl)
    rw [List.map_cons, bkL_cons] at hac
    have hx := bk_tr x
    have hx2 := len_map eFu x.2
    obtain ⟨r, h1, h2⟩ := v100 (fs := x.2) (by omega)
    have ih := l67 hl hf hb l (k + 1) (acc ++ r) A'.drop (by simp; omega)
    have hs : small (acc.map PV.str).length (r.map PV.str).length 16 = true := small_of (by simp only [BIG] at hac; simp; omega)
    rw [e67_11014]
    simp only [A.lt, A.ge, A.get, A.next, cond_true, Option.bind_some]
    simp only [tr_fits, tr_1, cond_true, h1, Option.bind_some, fits_lstS, toLst_lst, headOk_str, hs]
    rw [← List.map_append]
    exact ih
theorem v67 {p : Pq} (hb : bk p.enc ≤ BIG) : NamesR (V 67 [.pv p.enc]) (2 * BIG) := by
  have h1 := bk_pq p
  have h2 := len_map eTr p.ts
  have h3 := len_map eFu p.fs
  rw [pq_enc, e67]
  exact l67 (by omega) (by omega) (by omega) p.ts 0 [] rfl (by simp; omega)
theorem l68b {dd : List PV} {ms : List Mk} (hl : ms.length ≤ BIG) (i1 : Int) : ∀ (l : List Mk) (k : Nat) (acc : List Str), ms.drop k = l → acc.length + l.length ≤ 2 * BIG →
    ∃ r : List Str, L68_1101451104114 (acc.map .str) dd i1 (ms.map eMk) k = L68_11014 (r.map .str) dd (IntKind.i64.wrap (i1 + 1)) ∧ r.length = acc.length + l.length
  | [], k, acc, h, _ => ⟨acc, by rw [e68_1101451104114, endK_map h]; rfl, by simp⟩
  | x :: l, k, acc, h, hb => by
    have A := atK_map (f := eMk) h (len_max hl)
    have A' := atK h (len_max hl)
    obtain ⟨r, g1, g2⟩ := l68b (dd := dd) hl i1 l (k + 1) (acc ++ [x.1]) A'.drop (by simp at hb ⊢; omega)
    have hs : small (acc.map PV.str).length 1 16 = true := small_of (by simp only [BIG] at hb; simp at hb ⊢; omega)
    refine ⟨r, ?_, by simp at g2 ⊢; omega⟩
    rw [e68_1101451104114]
    simp only [A.lt, A.ge, A.get, A.next, cond_true, Option.bind_some]
    simp only [mk_fits, mk_nm, cond_true, hs]
    rw [show acc.map PV.str ++ [.str x.1] = (acc ++ [x.1]).map .str by simp]
    exact g1
theorem l68 {ds : List Dt} (hl : ds.length ≤ BIG) : ∀ (l : List Dt) (k : Nat) (acc : List Str), ds.drop k = l → acc.length + bkL (l.map eDt) ≤ BIG → NamesR (L68_11014 (acc.map .str) (ds.map eDt) k) (2 * BIG)
  | [], k, acc, h, hac => by
    rw [e68_11014, endK_map h]
    exact (namesR_bld acc).mono (by simp at hac; omega)
  | x :: l, k, acc, h, hac => by
    have A := atK_map (f := eDt) h (len_max hl)
    have A' := atK h (len_max hl)
    rw [List.map_cons, bkL_cons] at hac
    have hx := bk_dt x
    have hx2 := len_map eMk x.2.2
    obtain ⟨r, g1, g2⟩ := l68b (dd := ds.map eDt) (ms := x.2.2) (by omega) (k : Int) x.2.2 0 acc rfl (by omega)
    have ih := l68 hl l (k + 1) r A'.drop (by omega)
    rw [e68_11014]
    simp only [A.lt, A.ge, A.get, cond_true, Option.bind_some]
    simp only [dt_fits, dt_2, cond_true]
    rw [A.next] at g1
    exact (congrArg (NamesR · (2 * BIG)) g1).mpr ih
theorem v68 {p : Pq} (hb : bk p.enc ≤ BIG) : NamesR (V 68 [.pv p.enc]) (2 * BIG) := by
  have h1 := bk_pq p
  have h2 := len_map eDt p.ds
  rw [pq_enc, e68]
  exact l68 (by omega) p.ds 0 [] rfl (by simp; omega)
theorem l69 {fs : List Ac} (hl : fs.length ≤ BIG) : ∀ (l : List Ac) (k : Nat) (acc : List Str), fs.drop k = l → acc.length + l.length ≤ 2 * BIG → NamesR (L69_11014 (acc.map .str) (fs.map eAc) k) (acc.length + l.length)
  | [], k, acc, h, _ => by rw [e69_11014, endK_map h]; exact namesR_bld acc
  | x :: l, k, acc, h, hb => by
    have A := atK_map (f := eAc) h (len_max hl)
    have A' := atK h (len_max hl)
    have ih := l69 hl l (k + 1) (acc ++ [x.nm]) A'.drop (by simp at hb ⊢; omega)
    have hs : small (acc.map PV.str).length 1 16 = true := small_of (by simp only [BIG] at hb; simp at hb ⊢; omega)
    rw [e69_11014]
    simp only [A.lt, A.ge, A.get, A.next, cond_true, Option.bind_some]
    simp only [ac_fits, ac_nm, cond_true, hs]
    rw [show acc.map PV.str ++ [.str x.nm] = (acc ++ [x.nm]).map .str by simp]
    exact ih.mono (by simp; omega)
theorem v69 {p : Pq} (hb : bk p.enc ≤ BIG) : NamesR (V 69 [.pv p.enc]) (2 * BIG) := by
  have h1 := bk_pq p
  have h2 := len_map eAc p.ac
  rw [pq_enc, e69]
  exact (l69 (by omega) p.ac 0 [] rfl (by simp; omega)).mono (by simp; omega)

/-! #### Functions, bodies -/
def funs (p : Pq) : List Fu := p.is.flatMap (·.2.2) ++ p.fs
def Bd (p : Pq) (e : Ex) : Prop := (∃ f, f ∈ funs p ∧ f.body = e) ∨ ∃ a, a ∈ p.ac ∧ a.body = e
def FusR (p : Pq) (o : Option Out) (n : Nat) : Prop := ∃ r : List Fu, o.bind retPV = some (.lst (r.map eFu)) ∧ r.length ≤ n ∧ ∀ f, f ∈ r → bk (eFu f) ≤ n ∧ f ∈ funs p
theorem l66 {p : Pq} (hl : p.is.length ≤ BIG) (hf : bkL (p.fs.map eFu) ≤ BIG) : ∀ (l : List Im) (k : Nat) (acc : List Fu), p.is.drop k = l → acc.length + bkL (l.map eIm) + bkL (p.fs.map eFu) ≤ BIG → (∀ f, f ∈ acc → bk (eFu f) ≤ BIG ∧ f ∈ funs p) →
    FusR p (L66_11014 (acc.map eFu) (p.is.map eIm) k p.nm p.ver (p.us.map eUs) (p.ds.map eDt) (p.ts.map eTr) (p.fs.map eFu) (p.ac.map eAc)) BIG
  | [], k, acc, h, hac, hm => by
    have hlf := len_map eFu p.fs
    have hs : small (acc.map eFu).length (p.fs.map eFu).length 272 = true := small_of (by simp only [BIG] at hac; simp at hac ⊢; omega)
    rw [e66_11014, endK_map h]
    simp only [cond_false, headOk_fu, hs, cond_true]
    rw [← List.map_append]
    refine ⟨_, rfl, by simp at hac ⊢; omega, fun f hm' => ?_⟩
    rcases List.mem_append.1 hm' with hm' | hm'
    · exact hm f hm'
    · have := bk_mem (List.mem_map.2 ⟨f, hm', rfl⟩ : eFu f ∈ p.fs.map eFu); exact ⟨by omega, List.mem_append_right _ hm'⟩
  | x :: l, k, acc, h, hac, hm => by
    have A := atK_map (f := eIm) h (len_max hl)
    have A' := atK h (len_max hl)
    rw [List.map_cons, bkL_cons] at hac
    have hx := bk_im x
    have hx2 := len_map eFu x.2.2
    have ih := l66 hl hf l (k + 1) (acc ++ x.2.2) A'.drop (by simp; omega) (fun f hm' => by
      rcases List.mem_append.1 hm' with hm' | hm'
      · exact hm f hm'
      · have := bk_mem (List.mem_map.2 ⟨f, hm', rfl⟩ : eFu f ∈ x.2.2.map eFu); exact ⟨by omega, List.mem_append_left _ (List.mem_flatMap.2 ⟨x, mem_drop h, hm'⟩)⟩)
    have hs : small (acc.map eFu).length (x.2.2.map eFu).length 272 = true := small_of (by simp only [BIG] at hac; simp; omega)
    rw [e66_11014]
    simp only [A.lt, A.ge, A.get, A.next, cond_true, Option.bind_some]
    simp only [im_fits, im_2, cond_true, headOk_fu, hs]
    rw [← List.map_append]
    exact ih
theorem v66 {p : Pq} (hb : bk p.enc ≤ BIG) : FusR p (V 66 [.pv p.enc]) BIG := by
  have h1 := bk_pq p
  have h2 := len_map eIm p.is
  rw [pq_enc, e66]
  exact l66 (by omega) (by omega) p.is 0 [] rfl (by simp; omega) (by simp)
def ExsR (p : Pq) (o : Option Out) (n : Nat) : Prop := ∃ r : List Ex, o.bind retPV = some (.lst (r.map Ex.enc)) ∧ r.length ≤ n ∧ ∀ f, f ∈ r → bk f.enc ≤ BIG ∧ Bd p f
theorem l29b {p : Pq} {ac : List Ac} (hac : ∀ a, a ∈ ac → a ∈ p.ac) (hl : ac.length ≤ BIG) (hba : bkL (ac.map eAc) ≤ BIG) : ∀ (l : List Ac) (k : Nat) (acc : List Ex), ac.drop k = l → acc.length + l.length ≤ 2 * BIG → (∀ f, f ∈ acc → bk f.enc ≤ BIG ∧ Bd p f) → ExsR p (L29_111014 (acc.map Ex.enc) (ac.map eAc) k) (2 * BIG)
  | [], k, acc, h, hc, hm => by
    rw [e29_111014, endK_map h]
    exact ⟨acc, rfl, by simp at hc; omega, hm⟩
  | x :: l, k, acc, h, hc, hm => by
    have A := atK_map (f := eAc) h (len_max hl)
    have A' := atK h (len_max hl)
    have hbx := bk_mem (List.mem_map.2 ⟨x, mem_drop h, rfl⟩ : eAc x ∈ ac.map eAc)
    have hbx2 := bk_ac x
    have ih := l29b hac hl hba l (k + 1) (acc ++ [x.body]) A'.drop (by simp at hc ⊢; omega) (fun f hm' => by
      rcases List.mem_append.1 hm' with hm' | hm'
      · exact hm f hm'
      · obtain rfl := List.mem_singleton.1 hm'; exact ⟨by omega, .inr ⟨x, hac x (mem_drop h), rfl⟩⟩)
    have hs : small (acc.map Ex.enc).length 1 136 = true := small_of (by simp only [BIG] at hc; simp at hc ⊢; omega)
    rw [e29_111014]
    simp only [A.lt, A.ge, A.get, A.next, cond_true, Option.bind_some]
    simp only [ac_fits, ac_ex, cond_true, hs]
    rw [show acc.map Ex.enc ++ [x.body.enc] = (acc ++ [x.body]).map Ex.enc by simp]
    exact ih
theorem l29 {p : Pq} {fs : List Fu} (hl : fs.length ≤ BIG) (hla : p.ac.length ≤ BIG) (hba : bkL (p.ac.map eAc) ≤ BIG) (hbf : ∀ f, f ∈ fs → bk (eFu f) ≤ BIG ∧ f ∈ funs p) : ∀ (l : List Fu) (k : Nat) (acc : List Ex), fs.drop k = l → acc.length + l.length ≤ BIG → (∀ f, f ∈ acc → bk f.enc ≤ BIG ∧ Bd p f) →
    ExsR p (L29_11014 (acc.map Ex.enc) (fs.map eFu) k p.nm p.ver (p.us.map eUs) (p.ds.map eDt) (p.ts.map eTr) (p.is.map eIm) (p.fs.map eFu) (p.ac.map eAc)) (2 * BIG)
  | [], k, acc, h, hac, hm => by
    rw [e29_11014, endK_map h]
    exact l29b (fun _ h => h) hla hba p.ac 0 acc rfl (by simp at hac; omega) hm
  | x :: l, k, acc, h, hac, hm => by
    have A := atK_map (f := eFu) h (len_max hl)
    have A' := atK h (len_max hl)
    obtain ⟨hbx, hbx3⟩ := hbf x (mem_drop h)
    have hbx2 := bk_fu x
    have ih := l29 hl hla hba hbf l (k + 1) (acc ++ [x.body]) A'.drop (by simp at hac ⊢; omega) (fun f hm' => by
      rcases List.mem_append.1 hm' with hm' | hm'
      · exact hm f hm'
      · obtain rfl := List.mem_singleton.1 hm'; exact ⟨by omega, .inl ⟨x, hbx3, rfl⟩⟩)
    have hs : small (acc.map Ex.enc).length 1 136 = true := small_of (by simp only [BIG] at hac; simp at hac ⊢; omega)
    rw [e29_11014]
    simp only [A.lt, A.ge, A.get, A.next, cond_true, Option.bind_some]
    simp only [fu_fits, fu_ex, cond_true, hs]
    rw [show acc.map Ex.enc ++ [x.body.enc] = (acc ++ [x.body]).map Ex.enc by simp]
    exact ih
theorem v29 {p : Pq} (hb : bk p.enc ≤ BIG) : ExsR p (V 29 [.pv p.enc]) (2 * BIG) := by
  have h1 := bk_pq p
  have h2 := len_map eAc p.ac
  obtain ⟨r, g1, g2, g3⟩ := v66 hb
  rw [pq_enc] at g1 ⊢
  rw [e29, g1]
  simp only [Option.bind_some, fits_lstS, toLst_lst, cond_true]
  exact l29 g2 (by omega) (by omega) g3 r 0 [] rfl (by simpa using g2) (by simp)
theorem l27 {P : List Ex} (hl : P.length ≤ maxLen) (hb : ∀ f, f ∈ P → bk f.enc ≤ BIG) : ∀ (l : List Ex) (k : Nat) (i : Int), P.drop k = l → ∃ b : Bool, L27_11014 i (P.map Ex.enc) k = some (.pv (.bool b), [])
  | [], k, i, h => ⟨_, by rw [e27_11014, endK_map h]; rfl⟩
  | x :: l, k, i, h => by
    have A := atK_map (f := Ex.enc) h hl
    have A' := atK h hl
    obtain ⟨n, hn, _⟩ := v65 (hb x (mem_drop h))
    obtain ⟨b, ih⟩ := l27 hl hb l (k + 1) (IntKind.i64.wrap (i + n)) A'.drop
    refine ⟨b, ?_⟩
    rw [e27_11014]
    simp only [A.lt, A.ge, A.get, A.next, cond_true, Option.bind_some]
    simp only [ex_fits, ex_eta, cond_true, hn, Option.bind_some, retPV_pv, fits_i64, toInt_int]
    exact ih
theorem v27 {p : Pq} (hb : bk p.enc ≤ BIG) : ∃ b : Bool, V 27 [.pv p.enc] = some (.pv (.bool b), []) := by
  obtain ⟨r, g1, g2, g3⟩ := v29 hb
  rw [pq_enc] at g1 ⊢
  rw [e27, g1]
  simp only [Option.bind_some, fits_lstS, toLst_lst, cond_true]
  exact l27 (by simp only [BIG] at g2; simp [maxLen]; omega) (fun f hf => (g3 f hf).1) r 0 0 rfl
theorem v72b {l : List Str} (h : l.length ≤ 8 * BIG) : V 72 [.pv (.lst (l.map .str))] = some (.bld 1 (l.map .str), []) := by
  rw [e72]
  unfold cloneOut
  have h2 : small 0 (l.map PV.str).length 16 = true := small_of (by simp only [BIG] at h; simp; omega)
  rw [headOk_str, h2]
  rfl
end Go.AL.S10.Sc
