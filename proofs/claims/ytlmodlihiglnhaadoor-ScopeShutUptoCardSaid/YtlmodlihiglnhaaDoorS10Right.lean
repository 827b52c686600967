/- The judge of a whole program: where nothing is wrong, every body has the parts that it needs. -/
import Derived.Test.YtlmodlihiglnhaaDoorS10EA
import Derived.Test.YtlmodlihiglnhaaDoorS10Mark
set_option linter.unusedVariables false
set_option linter.unusedSimpArgs false
set_option maxRecDepth 20000
namespace Go.AL.S10.Sc
open Go Go.AL Go.AL.S10 Go.AL.S10.Fr

def IR (Q : Prop) (o : Option Out) : Prop := ∃ v : Int, o = some (.pv (.int .i64 v), []) ∧ (v = 0 → Q)
section
variable {Q R : Prop}
theorem IR.ret {v : Int} (h : v = 0 → Q) : IR Q (some (.pv (.int .i64 v), [])) := ⟨v, rfl, h⟩
theorem IR.bif {c : Bool} {a b : Option Out} (ha : IR Q a) (hb : IR Q b) : IR Q (bif c then a else b) := by
  cases c with
  | true => exact ha
  | false => exact hb
theorem IR.call {o : Option Out} {K : Out → Option Out} (h : JR R o) (k : ∀ j : Int, (j = 0 → R) → IR Q (K (.pv (.tup []), [.box [.int .i64 j]]))) :
    IR Q (o.bind fun r => bif refFits [(1, some (Sh.agg [Sh.int .i64]))] [] r.2 then (retPV (r.1, [])).bind fun r1 => bif (Sh.tup []).fits r1 then K r else none else none) := by
  obtain ⟨j, rfl, hj⟩ := h
  exact k j hj
theorem IR.ofB {o : Option Out} {f : PV → Option Out} (h : isB o) (k : ∀ b, IR Q (f (.bool b))) : IR Q ((o.bind retPV).bind f) := by
  obtain ⟨b, rfl⟩ := h; exact k b
theorem IR.of {o : Option Out} (h : IR R o) (k : R → Q) : IR Q o := by
  obtain ⟨j, e, hj⟩ := h
  exact ⟨j, e, fun e => k (hj e)⟩
theorem ofS {n : Nat} {o : Option Out} {f : PV → Option Out} (h : SR n o) (k : ∀ s, JR Q (f (.str s))) : JR Q ((o.bind retPV).bind f) := by
  obtain ⟨s, rfl, _⟩ := h; exact k s
end
theorem t55 (n : Int) : isB (V 55 [.pv (.int .i64 n)]) := by obtain ⟨b, h, _⟩ := v55 n; exact ⟨b, h⟩

structure OkF (f : Fu) : Prop where
  a : f.a.length ≤ maxLen
  b : f.b.length ≤ maxLen
  c : OkTs f.c
  out : Okt f.out
  body : Okx f.body
structure OkA (f : Ac) : Prop where
  a : f.a.length ≤ maxLen
  b : OkTs f.b
  out : Okt f.out
  body : Okx f.body
structure OkPq (p : Pq) : Prop where
  d : ∀ x, x ∈ p.ds → x.2.1.length ≤ maxLen ∧ ∀ m : Mk, m ∈ x.2.2 → OkTs m.2
  t : ∀ x, x ∈ p.ts → ∀ f, f ∈ x.2 → OkF f
  i : ∀ x, x ∈ p.is → ∀ f, f ∈ x.2.2 → OkF f
  f : ∀ f, f ∈ p.fs → OkF f
  a : ∀ f, f ∈ p.ac → OkA f

def zE : Ex := .mk 0 0 [] [] [] [] [] 0
theorem okz : Okx zE := .mk ⟨by decide, by decide⟩ ⟨by decide, by decide⟩ (Nat.zero_le _) ⟨[], rfl, by decide, by decide, fun t h => by cases h⟩ (Nat.zero_le _) (Nat.zero_le _) (fun a h => by cases h) (fun a h => by cases h) (fun a h => by cases h)
theorem v93z : ∃ n, SR n (V 93 [.pv (.agg [.int .i64 0, .int .i64 0, .str [], .lst [], .lst [], .lst [], .lst [], .int .i64 0])]) := by
  have hb : bk zE.enc ≤ BIG := by rw [bk_ex3]; simp only [zE, Ex.text, Ex.names, Ex.types, Ex.args, Ex.arms, List.map_nil, bkL, List.length_nil]; decide
  have h := v93 okz hb
  unfold okMx at h
  rw [ex_enc] at h
  exact ⟨_, h⟩
theorem v60 {f : Fu} (hf : OkF f) (hb : bk (eFu f) ≤ BIG) (j : Int) (body : Bool) : JR (j = 0 ∧ (body = true → Rt f.body)) (V 60 [.box [.int .i64 j], .pv (eFu f), .pv (.bool body)]) := by
  have hbb : bk f.body.enc ≤ BIG := Nat.le_trans (bk_fu f) hb
  obtain ⟨ts, hts, _, htl, hto⟩ := hf.c
  obtain ⟨n, hz⟩ := v93z
  have h61 := fun j => v61 hf.body hbb j false
  have h93 := v93 hf.body hbb
  unfold okMx at h93
  rw [ex_enc] at h61 h93
  have s : ∀ v : Int, JR (v = 0 ∧ (body = true → Rt f.body)) (L60_116 body v f.nm (f.a.map .str) (f.b.map .str) f.c f.out.kind f.out.name (f.out.args.map Ty.enc) f.body.kind f.body.num f.body.text (f.body.names.map .str) f.body.types (f.body.args.map Ex.enc) (f.body.arms.map eArm) f.body.at_) := fun v => by
    rw [e60_116, hts, ty_eta]
    refine .call (v57 hf.a _) fun j1 h1 => ?_
    simp only [jb]
    refine .call (v57 hf.b _) fun j2 h2 => ?_
    simp only [jb]
    refine .call (v59 htl hto _) fun j3 h3 => ?_
    simp only [jb]
    refine .call (v59 (args := [f.out]) (by simp [maxLen]) (fun t h => by obtain rfl := List.mem_singleton.1 h; exact hf.out) _) fun j4 h4 => ?_
    simp only [jb]
    refine .bif (fun hbo => ?_) fun hbo => ?_
    · refine .call (h61 _) fun j5 h5 => ?_
      simp only [jb]
      exact .ret fun e => ⟨h1 (h2 (h3 (h4 (h5 e).1))), fun _ => (h5 e).2⟩
    · refine ofS h93 fun s1 => ?_
      simp only [fits_str', cond_true]
      refine ofS hz fun s2 => ?_
      simp only [fits_str', cond_true]
      refine .call (v53 _ _) fun j5 h5 => ?_
      simp only [jb]
      exact .ret fun e => ⟨h1 (h2 (h3 (h4 (h5 e).1))), fun h => by rw [hbo] at h; cases h⟩
  rw [fu_enc, e60]
  refine .ofB (t54 _) fun b _ => ?_
  simp only [fits_bool, toBool_bool, cond_true]
  refine .bif (fun _ => ?_) fun _ => ?_
  · refine .call (v53 _ _) fun j1 h1 => ?_
    simp only [jb]
    exact (s j1).of fun ⟨e, g⟩ => ⟨(h1 e).1, g⟩
  · refine .call (v53 _ _) fun j1 h1 => ?_
    simp only [jb]
    exact (s j1).of fun ⟨e, g⟩ => ⟨(h1 e).1, g⟩
theorem fu_eta (f : Fu) : PV.agg [.str ((eFu f).c 0).toStr, .lst ((eFu f).c 1).toLst, .lst ((eFu f).c 2).toLst, .lst ((eFu f).c 3).toLst, .int .i64 ((eFu f).c 4).toInt, .str ((eFu f).c 5).toStr, .lst ((eFu f).c 6).toLst, .int .i64 ((eFu f).c 7).toInt, .int .i64 ((eFu f).c 8).toInt, .str ((eFu f).c 9).toStr, .lst ((eFu f).c 10).toLst, .lst ((eFu f).c 11).toLst, .lst ((eFu f).c 12).toLst, .lst ((eFu f).c 13).toLst, .int .i64 ((eFu f).c 14).toInt] = eFu f := by rw [fu_enc]; rfl

theorem lens {p : Pq} (hb : bk p.enc ≤ BIG) : p.us.length ≤ maxLen ∧ p.ds.length ≤ maxLen ∧ p.ts.length ≤ maxLen ∧ p.is.length ≤ maxLen ∧ p.fs.length ≤ maxLen ∧ p.ac.length ≤ maxLen := by
  have h0 : bkL (p.us.map eUs) + bkL (p.ds.map eDt) + bkL (p.ts.map eTr) + bkL (p.is.map eIm) + bkL (p.fs.map eFu) + bkL (p.ac.map eAc) + 1 ≤ bk p.enc := by
    rw [pq_enc]; simp only [bk, bkL]; omega
  have h1 := len_map eUs p.us
  have h2 := len_map eDt p.ds
  have h3 := len_map eTr p.ts
  have h4 := len_map eIm p.is
  have h5 := len_map eFu p.fs
  have h6 := len_map eAc p.ac
  exact ⟨len_max (by omega), len_max (by omega), len_max (by omega), len_max (by omega), len_max (by omega), len_max (by omega)⟩
theorem lIb {p : Pq} {R : Prop} {i2 : Int} {fs : List Fu} (hl : fs.length ≤ maxLen) (ho : ∀ f, f ∈ fs → OkF f ∧ bk (eFu f) ≤ BIG) (hn : ∀ v, IR (v = 0 ∧ R) (L23_1111111014 (p.is.map eIm) (IntKind.i64.wrap (i2 + 1)) p.nm p.ver (p.us.map eUs) (p.ds.map eDt) (p.ts.map eTr) (p.fs.map eFu) (p.ac.map eAc) v)) : ∀ (l : List Fu) (k : Nat) (v : Int), fs.drop k = l →
    IR (v = 0 ∧ (∀ f, f ∈ l → Rt f.body) ∧ R) (L23_11111110145110411114 (p.is.map eIm) i2 (fs.map eFu) k p.nm p.ver (p.us.map eUs) (p.ds.map eDt) (p.ts.map eTr) (p.fs.map eFu) (p.ac.map eAc) v)
  | [], k, v, h => by
    rw [e23_11111110145110411114, endK_map h]
    exact (hn v).of fun ⟨e, g⟩ => ⟨e, fun a ha => (by cases ha), g⟩
  | x :: l, k, v, h => by
    have A := atK_map (f := eFu) h hl
    have A' := atK h hl
    have ih := fun v => lIb hl ho hn l (k + 1) v A'.drop
    have hx := ho x (mem_drop h)
    rw [e23_11111110145110411114]
    simp only [A.lt, A.ge, A.get, A.next, cond_true, Option.bind_some]
    simp only [fu_fits, fu_eta, cond_true]
    refine .call (v60 hx.1 hx.2 _ _) fun j1 h1 => ?_
    simp only [jb]
    refine (ih j1).of fun ⟨e, g1, g2⟩ => ⟨(h1 e).1, fun f hf => ?_, g2⟩
    rcases List.mem_cons.1 hf with rfl | hf
    · exact (h1 e).2 rfl
    · exact g1 f hf
theorem lTb {p : Pq} {R : Prop} {i2 : Int} {fs : List Fu} (hl : fs.length ≤ maxLen) (ho : ∀ f, f ∈ fs → OkF f ∧ bk (eFu f) ≤ BIG) (hn : ∀ v, IR (v = 0 ∧ R) (L23_111111014 (p.ts.map eTr) (IntKind.i64.wrap (i2 + 1)) p.nm p.ver (p.us.map eUs) (p.ds.map eDt) (p.is.map eIm) (p.fs.map eFu) (p.ac.map eAc) v)) : ∀ (l : List Fu) (k : Nat) (v : Int), fs.drop k = l →
    IR (v = 0 ∧ R) (L23_1111110145110411114 (p.ts.map eTr) i2 (fs.map eFu) k p.nm p.ver (p.us.map eUs) (p.ds.map eDt) (p.is.map eIm) (p.fs.map eFu) (p.ac.map eAc) v)
  | [], k, v, h => by
    rw [e23_1111110145110411114, endK_map h]
    exact hn v
  | x :: l, k, v, h => by
    have A := atK_map (f := eFu) h hl
    have A' := atK h hl
    have ih := fun v => lTb hl ho hn l (k + 1) v A'.drop
    have hx := ho x (mem_drop h)
    rw [e23_1111110145110411114]
    simp only [A.lt, A.ge, A.get, A.next, cond_true, Option.bind_some]
    simp only [fu_fits, fu_eta, cond_true]
    refine .call (v60 hx.1 hx.2 _ _) fun j1 h1 => ?_
    simp only [jb]
    exact (ih j1).of fun ⟨e, g⟩ => ⟨(h1 e).1, g⟩
theorem lDb {p : Pq} {R : Prop} {i2 : Int} {ms : List Mk} (hl : ms.length ≤ maxLen) (ho : ∀ m : Mk, m ∈ ms → OkTs m.2) (hn : ∀ v, IR (v = 0 ∧ R) (L23_11111014 (p.ds.map eDt) (IntKind.i64.wrap (i2 + 1)) p.nm p.ver (p.us.map eUs) (p.ts.map eTr) (p.is.map eIm) (p.fs.map eFu) (p.ac.map eAc) v)) : ∀ (l : List Mk) (k : Nat) (v : Int), ms.drop k = l →
    IR (v = 0 ∧ R) (L23_1111101451104111114 (p.ds.map eDt) i2 (ms.map eMk) k p.nm p.ver (p.us.map eUs) (p.ts.map eTr) (p.is.map eIm) (p.fs.map eFu) (p.ac.map eAc) v)
  | [], k, v, h => by
    rw [e23_1111101451104111114, endK_map h]
    exact hn v
  | x :: l, k, v, h => by
    have A := atK_map (f := eMk) h hl
    have A' := atK h hl
    have ih := fun v => lDb hl ho hn l (k + 1) v A'.drop
    obtain ⟨ts, hts, _, htl, hto⟩ := ho x (mem_drop h)
    have f1 : ((eMk x).c 1).toLst = ts.map Ty.enc := by rw [← hts]; rfl
    rw [e23_1111101451104111114]
    simp only [A.lt, A.ge, A.get, A.next, cond_true, Option.bind_some]
    simp only [mk_fits, mk_nm, f1, cond_true]
    refine .ofB (t58 _) fun b => ?_
    simp only [fits_bool, toBool_bool, cond_true]
    refine .call (v53 _ _) fun j1 h1 => ?_
    simp only [jb]
    refine .call (v52 _ _) fun j2 h2 => ?_
    simp only [jb]
    refine .call (v59 htl hto _) fun j3 h3 => ?_
    simp only [jb]
    exact (ih j3).of fun ⟨e, g⟩ => ⟨(h1 (h2 (h3 e)).1).1, g⟩
section
variable {p : Pq} (hp : OkPq p) (hb : bk p.enc ≤ BIG)
include hp hb
theorem lA : ∀ (l : List Ac) (k : Nat) (v : Int), p.ac.drop k = l → IR (v = 0 ∧ ∀ a, a ∈ l → Rt a.body) (L23_111111111014 (p.ac.map eAc) k p.nm p.ver (p.us.map eUs) (p.ds.map eDt) (p.ts.map eTr) (p.is.map eIm) (p.fs.map eFu) v)
  | [], k, v, h => by rw [e23_111111111014, endK_map h]; exact .ret fun e => ⟨e, fun a ha => by cases ha⟩
  | x :: l, k, v, h => by
    have hl := (lens hb).2.2.2.2.2
    have A := atK_map (f := eAc) h hl
    have A' := atK h hl
    have ih := fun v => lA l (k + 1) v A'.drop
    have hx := mem_drop h
    have ho := hp.a x hx
    have hbx : bk x.body.enc ≤ BIG := by
      have h1 := bk_pq p
      have h2 := bk_mem (List.mem_map.2 ⟨x, hx, rfl⟩ : eAc x ∈ p.ac.map eAc)
      have h3 := bk_ac x
      omega
    obtain ⟨ts, hts, _, htl, hto⟩ := ho.b
    have h61 := fun j => v61 ho.body hbx j true
    rw [ex_enc] at h61
    have s : ∀ v : Int, IR (v = 0 ∧ ∀ a, a ∈ x :: l → Rt a.body) (L23_11111111101451104116 (p.ac.map eAc) k p.nm p.ver (p.us.map eUs) (p.ds.map eDt) (p.ts.map eTr) (p.is.map eIm) (p.fs.map eFu) v x.nm (x.a.map .str) x.b x.out.kind x.out.name (x.out.args.map Ty.enc) x.body.kind x.body.num x.body.text (x.body.names.map .str) x.body.types (x.body.args.map Ex.enc) (x.body.arms.map eArm) x.body.at_) := fun v => by
      rw [e23_11111111101451104116, hts, ty_eta, A.next]
      refine .call (v57 ho.a _) fun j1 h1 => ?_
      simp only [jb]
      refine .call (v59 htl hto _) fun j2 h2 => ?_
      simp only [jb]
      refine .call (v59 (args := [x.out]) (by simp [maxLen]) (fun t h => by obtain rfl := List.mem_singleton.1 h; exact ho.out) _) fun j3 h3 => ?_
      simp only [jb]
      refine .call (h61 _) fun j4 h4 => ?_
      simp only [jb]
      refine (ih j4).of fun ⟨e, g⟩ => ⟨h1 (h2 (h3 (h4 e).1)), fun a ha => ?_⟩
      rcases List.mem_cons.1 ha with rfl | ha
      · exact (h4 e).2
      · exact g a ha
    rw [e23_111111111014]
    simp only [A.lt, A.ge, A.get, cond_true, Option.bind_some]
    rw [ac_fits, ac_enc]
    simp only [cond_true]
    refine .ofB (t58 _) fun b => ?_
    simp only [fits_bool, toBool_bool, cond_true]
    refine .bif ?_ ?_
    · refine .call (v53 _ _) fun j1 h1 => ?_
      simp only [jb]
      exact (s j1).of fun ⟨e, g⟩ => ⟨(h1 e).1, g⟩
    · refine .call (v53 _ _) fun j1 h1 => ?_
      simp only [jb]
      exact (s j1).of fun ⟨e, g⟩ => ⟨(h1 e).1, g⟩
theorem lF : ∀ (l : List Fu) (k : Nat) (v : Int), p.fs.drop k = l → IR (v = 0 ∧ (∀ f, f ∈ l → Rt f.body) ∧ ∀ a, a ∈ p.ac → Rt a.body) (L23_11111111014 (p.fs.map eFu) k p.nm p.ver (p.us.map eUs) (p.ds.map eDt) (p.ts.map eTr) (p.is.map eIm) (p.ac.map eAc) v)
  | [], k, v, h => by
    rw [e23_11111111014, endK_map h]
    exact (lA hp hb p.ac 0 v rfl).of fun ⟨e, g⟩ => ⟨e, fun a ha => (by cases ha), g⟩
  | x :: l, k, v, h => by
    have hl := (lens hb).2.2.2.2.1
    have A := atK_map (f := eFu) h hl
    have A' := atK h hl
    have ih := fun v => lF l (k + 1) v A'.drop
    have hx := mem_drop h
    have hbx : bk (eFu x) ≤ BIG := by
      have h1 := bk_pq p
      have h2 := bk_mem (List.mem_map.2 ⟨x, hx, rfl⟩ : eFu x ∈ p.fs.map eFu)
      omega
    rw [e23_11111111014]
    simp only [A.lt, A.ge, A.get, A.next, cond_true, Option.bind_some]
    simp only [fu_fits, fu_eta, cond_true]
    refine .call (v60 (hp.f x hx) hbx _ _) fun j1 h1 => ?_
    simp only [jb]
    refine (ih j1).of fun ⟨e, g1, g2⟩ => ⟨(h1 e).1, fun f hf => ?_, g2⟩
    rcases List.mem_cons.1 hf with rfl | hf
    · exact (h1 e).2 rfl
    · exact g1 f hf
theorem lI : ∀ (l : List Im) (k : Nat) (v : Int), p.is.drop k = l → IR (v = 0 ∧ (∀ x, x ∈ l → ∀ f, f ∈ x.2.2 → Rt f.body) ∧ (∀ f, f ∈ p.fs → Rt f.body) ∧ ∀ a, a ∈ p.ac → Rt a.body) (L23_1111111014 (p.is.map eIm) k p.nm p.ver (p.us.map eUs) (p.ds.map eDt) (p.ts.map eTr) (p.fs.map eFu) (p.ac.map eAc) v)
  | [], k, v, h => by
    rw [e23_1111111014, endK_map h]
    exact (lF hp hb p.fs 0 v rfl).of fun ⟨e, g⟩ => ⟨e, fun a ha => (by cases ha), g⟩
  | x :: l, k, v, h => by
    have hl := (lens hb).2.2.2.1
    have A := atK_map (f := eIm) h hl
    have A' := atK h hl
    have ih := fun v => lI l (k + 1) v A'.drop
    have hx := mem_drop h
    have hbx : bk (eIm x) ≤ BIG := by
      have h1 := bk_pq p
      have h2 := bk_mem (List.mem_map.2 ⟨x, hx, rfl⟩ : eIm x ∈ p.is.map eIm)
      omega
    have hb2 := bk_im x
    have hb3 := len_map eFu x.2.2
    have s : ∀ v : Int, IR (v = 0 ∧ (∀ y, y ∈ x :: l → ∀ f, f ∈ y.2.2 → Rt f.body) ∧ (∀ f, f ∈ p.fs → Rt f.body) ∧ ∀ a, a ∈ p.ac → Rt a.body) (L23_111111101451104116 (p.is.map eIm) k p.nm p.ver (p.us.map eUs) (p.ds.map eDt) (p.ts.map eTr) (p.fs.map eFu) (p.ac.map eAc) v x.1 x.2.1 (x.2.2.map eFu)) := fun v => by
      rw [e23_111111101451104116]
      refine .call (v52 _ _) fun j1 h1 => ?_
      simp only [jb]
      have hn := fun v => ih v
      rw [← A.next] at hn
      refine (lIb (len_max (by omega)) (fun f hf => ⟨hp.i x hx f hf, by have := bk_mem (List.mem_map.2 ⟨f, hf, rfl⟩ : eFu f ∈ x.2.2.map eFu); omega⟩) hn x.2.2 0 j1 rfl).of fun ⟨e, g1, g2, g3⟩ => ⟨(h1 e).1, fun y hy => ?_, g3⟩
      rcases List.mem_cons.1 hy with rfl | hy
      · exact g1
      · exact g2 y hy
    have f1 : ((eIm x).c 0).toStr = x.1 := nrfl rfl
    have f2 : ((eIm x).c 1).toStr = x.2.1 := nrfl rfl
    rw [e23_1111111014]
    simp only [A.lt, A.ge, A.get, cond_true, Option.bind_some]
    simp only [im_fits, im_2, f1, f2, cond_true]
    refine .ofB (t58 _) fun b => ?_
    simp only [fits_bool, toBool_bool, cond_true]
    refine .bif ?_ ?_
    · refine .ofB (t58 _) fun b => ?_
      simp only [fits_bool, toBool_bool, cond_true]
      refine .bif ?_ ?_
      · refine .call (v53 _ _) fun j1 h1 => ?_
        simp only [jb]
        exact (s j1).of fun ⟨e, g⟩ => ⟨(h1 e).1, g⟩
      · refine .ofB (t25 (xs := [[105, 110, 116], [98, 111, 111, 108], [116, 101, 120, 116], [117, 110, 105, 116]]) _ (by decide)) fun b => ?_
        simp only [fits_bool, toBool_bool, cond_true]
        refine .call (v53 _ _) fun j1 h1 => ?_
        simp only [jb]
        exact (s j1).of fun ⟨e, g⟩ => ⟨(h1 e).1, g⟩
    · refine .call (v53 _ _) fun j1 h1 => ?_
      simp only [jb]
      exact (s j1).of fun ⟨e, g⟩ => ⟨(h1 e).1, g⟩
end
def Qr (p : Pq) : Prop := (∀ x, x ∈ p.is → ∀ f, f ∈ x.2.2 → Rt f.body) ∧ (∀ f, f ∈ p.fs → Rt f.body) ∧ ∀ a, a ∈ p.ac → Rt a.body
section
variable {p : Pq} (hp : OkPq p) (hb : bk p.enc ≤ BIG)
include hp hb
theorem lT : ∀ (l : List Tr) (k : Nat) (v : Int), p.ts.drop k = l → IR (v = 0 ∧ Qr p) (L23_111111014 (p.ts.map eTr) k p.nm p.ver (p.us.map eUs) (p.ds.map eDt) (p.is.map eIm) (p.fs.map eFu) (p.ac.map eAc) v)
  | [], k, v, h => by
    rw [e23_111111014, endK_map h]
    exact lI hp hb p.is 0 v rfl
  | x :: l, k, v, h => by
    have hl := (lens hb).2.2.1
    have A := atK_map (f := eTr) h hl
    have A' := atK h hl
    have ih := fun v => lT l (k + 1) v A'.drop
    have hx := mem_drop h
    have hbx : bk (eTr x) ≤ BIG := by
      have h1 := bk_pq p
      have h2 := bk_mem (List.mem_map.2 ⟨x, hx, rfl⟩ : eTr x ∈ p.ts.map eTr)
      omega
    have hb2 := bk_tr x
    have hb3 := len_map eFu x.2
    have f1 : ((eTr x).c 0).toStr = x.1 := nrfl rfl
    rw [e23_111111014]
    simp only [A.lt, A.ge, A.get, cond_true, Option.bind_some]
    simp only [tr_fits, tr_1, f1, cond_true]
    refine .ofB (t58 _) fun b => ?_
    simp only [fits_bool, toBool_bool, cond_true]
    refine .call (v53 _ _) fun j1 h1 => ?_
    simp only [jb]
    refine .call (v52 _ _) fun j2 h2 => ?_
    simp only [jb]
    have hn := fun v => ih v
    rw [← A.next] at hn
    exact (lTb (len_max (by omega)) (fun f hf => ⟨hp.t x hx f hf, by have := bk_mem (List.mem_map.2 ⟨f, hf, rfl⟩ : eFu f ∈ x.2.map eFu); omega⟩) hn x.2 0 j2 rfl).of fun ⟨e, g⟩ => ⟨(h1 (h2 e).1).1, g⟩
theorem lD : ∀ (l : List Dt) (k : Nat) (v : Int), p.ds.drop k = l → IR (v = 0 ∧ Qr p) (L23_11111014 (p.ds.map eDt) k p.nm p.ver (p.us.map eUs) (p.ts.map eTr) (p.is.map eIm) (p.fs.map eFu) (p.ac.map eAc) v)
  | [], k, v, h => by
    rw [e23_11111014, endK_map h]
    exact lT hp hb p.ts 0 v rfl
  | x :: l, k, v, h => by
    have hl := (lens hb).2.1
    have A := atK_map (f := eDt) h hl
    have A' := atK h hl
    have ih := fun v => lD l (k + 1) v A'.drop
    have hx := mem_drop h
    have hbx : bk (eDt x) ≤ BIG := by
      have h1 := bk_pq p
      have h2 := bk_mem (List.mem_map.2 ⟨x, hx, rfl⟩ : eDt x ∈ p.ds.map eDt)
      omega
    have hb2 := bk_dt x
    have hb3 := len_map eMk x.2.2
    have f1 : ((eDt x).c 0).toStr = x.1 := nrfl rfl
    have f2 : ((eDt x).c 1).toLst = x.2.1.map .str := nrfl rfl
    have s : ∀ v : Int, IR (v = 0 ∧ Qr p) (L23_1111101451104116 (p.ds.map eDt) k p.nm p.ver (p.us.map eUs) (p.ts.map eTr) (p.is.map eIm) (p.fs.map eFu) (p.ac.map eAc) v x.1 (x.2.1.map .str) (x.2.2.map eMk)) := fun v => by
      rw [e23_1111101451104116]
      refine .call (v57 (hp.d x hx).1 _) fun j1 h1 => ?_
      simp only [jb]
      refine .call (v52 _ _) fun j2 h2 => ?_
      simp only [jb]
      have hn := fun v => ih v
      rw [← A.next] at hn
      exact (lDb (len_max (by omega)) (hp.d x hx).2 hn x.2.2 0 j2 rfl).of fun ⟨e, g⟩ => ⟨h1 (h2 e).1, g⟩
    rw [e23_11111014]
    simp only [A.lt, A.ge, A.get, cond_true, Option.bind_some]
    simp only [dt_fits, dt_2, f1, f2, cond_true]
    refine .ofB (t56 _) fun b => ?_
    simp only [fits_bool, toBool_bool, cond_true]
    refine .bif ?_ ?_
    · refine .call (v53 _ _) fun j1 h1 => ?_
      simp only [jb]
      exact (s j1).of fun ⟨e, g⟩ => ⟨(h1 e).1, g⟩
    · refine .call (v53 _ _) fun j1 h1 => ?_
      simp only [jb]
      exact (s j1).of fun ⟨e, g⟩ => ⟨(h1 e).1, g⟩
theorem lU : ∀ (l : List Us) (k : Nat) (v : Int), p.us.drop k = l → IR (v = 0 ∧ Qr p) (L23_1111014 (p.us.map eUs) k p.nm p.ver (p.ds.map eDt) (p.ts.map eTr) (p.is.map eIm) (p.fs.map eFu) (p.ac.map eAc) v)
  | [], k, v, h => by
    rw [e23_1111014, endK_map h]
    exact lD hp hb p.ds 0 v rfl
  | x :: l, k, v, h => by
    have hl := (lens hb).1
    have A := atK_map (f := eUs) h hl
    have A' := atK h hl
    have ih := fun v => lU l (k + 1) v A'.drop
    have f0 : (Sh.agg [Sh.str, Sh.int .i64, Sh.int .i64]).fits (eUs x) = true := nrfl rfl
    rw [e23_1111014]
    simp only [A.lt, A.ge, A.get, A.next, cond_true, Option.bind_some, f0]
    have go : ∀ b : Bool, IR (v = 0 ∧ Qr p) ((V 53 [.box [.int .i64 v], .pv (.bool b)]).bind fun r => bif refFits [(1, some (Sh.agg [Sh.int .i64]))] [] r.2 then (retPV (r.1, [])).bind fun r1 => bif (Sh.tup []).fits r1 then L23_1111014 (p.us.map eUs) ((k + 1 : Nat) : Int) p.nm p.ver (p.ds.map eDt) (p.ts.map eTr) (p.is.map eIm) (p.fs.map eFu) (p.ac.map eAc) (((Out.b r 0).c 0).toInt) else none else none) := fun b => by
      refine .call (v53 _ _) fun j1 h1 => ?_
      simp only [jb]
      exact (ih j1).of fun ⟨e, g⟩ => ⟨(h1 e).1, g⟩
    refine .ofB (t54 _) fun b => ?_
    simp only [fits_bool, toBool_bool, cond_true]
    refine .bif ?_ (go _)
    refine .ofB (t55 _) fun b => ?_
    simp only [fits_bool, toBool_bool, cond_true]
    refine .bif ?_ (go _)
    refine .ofB (t55 _) fun b => ?_
    simp only [fits_bool, toBool_bool, cond_true]
    exact .bif (go _) (go _)
theorem right : IR (Qr p) (V 23 [.pv p.enc]) := by
  have s3 : ∀ v : Int, IR (v = 0 ∧ Qr p) (L23_11116 p.nm p.ver (p.us.map eUs) (p.ds.map eDt) (p.ts.map eTr) (p.is.map eIm) (p.fs.map eFu) (p.ac.map eAc) v) := fun v => by
    rw [e23_11116]; exact lU hp hb p.us 0 v rfl
  have s4 : ∀ v : Int, IR (v = 0 ∧ Qr p) (L23_11014 (p.us.map eUs) (p.ds.map eDt) (p.ts.map eTr) (p.is.map eIm) (p.fs.map eFu) (p.ac.map eAc) 6 p.nm p.ver v) := fun v => by
    rw [e23_11014, show decide ((6 : Int) < 6) = false from rfl]
    simp only [cond_false]
    refine .ofB (t54 _) fun b => ?_
    simp only [fits_bool, toBool_bool, cond_true]
    refine .bif ?_ ?_
    · refine .ofB (t55 _) fun b => ?_
      simp only [fits_bool, toBool_bool, cond_true]
      refine .call (v53 _ _) fun j1 h1 => ?_
      simp only [jb]
      exact (s3 j1).of fun ⟨e1, g⟩ => ⟨(h1 e1).1, g⟩
    · refine .call (v53 _ _) fun j1 h1 => ?_
      simp only [jb]
      exact (s3 j1).of fun ⟨e1, g⟩ => ⟨(h1 e1).1, g⟩
  have round : ∀ (i : Nat), i < 6 → (∀ v : Int, IR (v = 0 ∧ Qr p) (L23_11014 (p.us.map eUs) (p.ds.map eDt) (p.ts.map eTr) (p.is.map eIm) (p.fs.map eFu) (p.ac.map eAc) ((i + 1 : Nat) : Int) p.nm p.ver v)) → ∀ v : Int, IR (v = 0 ∧ Qr p) (L23_11014 (p.us.map eUs) (p.ds.map eDt) (p.ts.map eTr) (p.is.map eIm) (p.fs.map eFu) (p.ac.map eAc) (i : Int) p.nm p.ver v) := fun i hi hn v => by
    rw [e23_11014, decide_eq_true (show (i : Int) < 6 by omega), decide_eq_true (show (0 : Int) ≤ (i : Int) by omega), Int.toNat_natCast]
    simp only [cond_true]
    have hw : IntKind.i64.wrap ((i : Int) + 1) = ((i + 1 : Nat) : Int) := by rw [wrap_i64 (by omega) (by omega)]; omega
    obtain ⟨n, hn'⟩ : ∃ n : Int, ([.int .i64 (((p.us.map eUs).length : Nat) : Int), .int .i64 (((p.ds.map eDt).length : Nat) : Int), .int .i64 (((p.ts.map eTr).length : Nat) : Int), .int .i64 (((p.is.map eIm).length : Nat) : Int), .int .i64 (((p.fs.map eFu).length : Nat) : Int), .int .i64 (((p.ac.map eAc).length : Nat) : Int)] : List PV)[i]? = some (.int .i64 n) := by
      obtain rfl | rfl | rfl | rfl | rfl | rfl : i = 0 ∨ i = 1 ∨ i = 2 ∨ i = 3 ∨ i = 4 ∨ i = 5 := by omega
      all_goals exact ⟨_, rfl⟩
    rw [hn']
    simp only [Option.bind_some, fits_i64, toInt_int, cond_true, hw]
    refine .call (v52 _ _) fun j1 h1 => ?_
    simp only [jb]
    exact (hn j1).of fun ⟨e1, g⟩ => ⟨(h1 e1).1, g⟩
  have s0 := round 0 (by omega) (round 1 (by omega) (round 2 (by omega) (round 3 (by omega) (round 4 (by omega) (round 5 (by omega) s4)))))
  rw [pq_enc, e23]
  exact (s0 0).of fun h => h.2
theorem rightB : IR (∀ e, Bd p e → Rt e) (V 23 [.pv p.enc]) := (right hp hb).of fun ⟨g1, g2, g3⟩ e h => by
  rcases h with ⟨f, hf, rfl⟩ | ⟨a, ha, rfl⟩
  · unfold funs at hf
    rcases List.mem_append.1 hf with hf | hf
    · obtain ⟨x, hx, hf⟩ := List.mem_flatMap.1 hf
      exact g1 x hx f hf
    · exact g2 f hf
  · exact g3 a ha
end
end Go.AL.S10.Sc
