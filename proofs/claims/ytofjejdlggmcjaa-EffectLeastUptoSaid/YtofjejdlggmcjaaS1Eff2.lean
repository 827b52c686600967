/- Effects: the least ones; the laws. -/
import Derived.Test.YtofjejdlggmcjaaS1Eff
set_option linter.unusedVariables false
set_option linter.unusedSimpArgs false
namespace Go.AL.S1
open Go Go.AL

noncomputable def own (e : Ex) : Nat := (ansI 54 e.enc).toNat
theorem own_of {e : Ex} (hb : bk e.enc ≤ BIG) : V 54 [.pv e.enc] = some (.pv (.int .i64 (own e : Int)), []) ∧ own e < 128 := by
  obtain ⟨n, h1, h2⟩ := v54 hb
  have : own e = n := by unfold own; rw [ansI_of h1]; simp
  rw [this]
  exact ⟨h1, h2⟩
open Classical in
noncomputable def calls (e : Ex) : List Str := if h : ∃ r : List Str, (V 56 [.pv e.enc]).bind retPV = some (.lst (r.map .str)) ∧ r.length ≤ BIG then h.choose else []
theorem calls_of {e : Ex} (hb : bk e.enc ≤ BIG) : (V 56 [.pv e.enc]).bind retPV = some (.lst ((calls e).map .str)) ∧ (calls e).length ≤ BIG := by
  have h := v56 hb
  have h' : ∃ r : List Str, (V 56 [.pv e.enc]).bind retPV = some (.lst (r.map .str)) ∧ r.length ≤ BIG := h
  unfold calls
  rw [dif_pos h']
  exact h'.choose_spec
noncomputable def app (e : Ex) : Bool := match (V 107 [.pv e.enc]).bind retPV with | some r => r.toBool | none => false
theorem app_of {e : Ex} (hb : bk e.enc ≤ BIG) : V 107 [.pv e.enc] = some (.pv (.bool (app e)), []) := by
  obtain ⟨b, h⟩ := v107 hb
  have : app e = b := by unfold app; rw [h]; rfl
  rw [this]; exact h
def eI (m : Nat) : PV := .int .i64 (m : Int)
theorem eI_fits (m : Nat) : (Sh.int .i64).fits (eI m) = true := nrfl rfl
theorem eI_int (m : Nat) : (eI m).toInt = (m : Int) := nrfl rfl

/-! #### Once -/
def foldO (c : List Str) : List Fu → List Nat → Nat → Nat
  | f :: l, h :: m, v => foldO c l m (bif has c f.nm then v ||| h else v)
  | _, _, v => v
def All128 (H : List Nat) : Prop := ∀ h, h ∈ H → h < 128
theorem foldO_lt {c : List Str} : ∀ {l : List Fu} {m : List Nat} {v : Nat}, All128 m → v < 128 → foldO c l m v < 128
  | [], _, v, _, hv => by simpa [foldO] using hv
  | _ :: _, [], v, _, hv => by simpa [foldO] using hv
  | f :: l, h :: m, v, hm, hv => by
    rw [foldO]
    refine foldO_lt (fun x hx => hm x (by simp [hx])) ?_
    cases has c f.nm with
    | true => exact (orI hv (hm h (by simp))).2
    | false => exact hv
theorem foldO_ge {c : List Str} : ∀ (l : List Fu) (m : List Nat) (v : Nat), mle v (foldO c l m v)
  | [], _, v => by simpa [foldO] using mle.refl v
  | _ :: _, [], v => by simpa [foldO] using mle.refl v
  | f :: l, h :: m, v => by
    rw [foldO]
    refine mle.trans ?_ (foldO_ge l m _)
    cases has c f.nm with
    | true => exact mle.left v h
    | false => exact mle.refl v
theorem foldO_at {c : List Str} : ∀ (l : List Fu) (m : List Nat) (v : Nat) (i : Nat) (f : Fu) (h : Nat), l[i]? = some f → m[i]? = some h → has c f.nm = true → mle h (foldO c l m v)
  | [], _, v, i, f, h, h1, _, _ => by simp at h1
  | _ :: _, [], v, i, f, h, _, h2, _ => by simp at h2
  | f' :: l, h' :: m, v, 0, f, h, h1, h2, h3 => by
    simp at h1 h2
    subst h1; subst h2
    rw [foldO, h3]
    exact (mle.right v h').trans (foldO_ge l m _)
  | f' :: l, h' :: m, v, i + 1, f, h, h1, h2, h3 => by
    rw [foldO]
    exact foldO_at l m _ i f h (by simpa using h1) (by simpa using h2) h3
def PLe : List Nat → List Nat → Prop
  | [], _ => True
  | a :: l, b :: m => mle a b ∧ PLe l m
  | _ :: _, [] => False
theorem PLe.refl : ∀ l : List Nat, PLe l l
  | [] => trivial
  | a :: l => ⟨mle.refl a, PLe.refl l⟩
theorem PLe.at' : ∀ {l m : List Nat} {i : Nat} {a : Nat}, PLe l m → l[i]? = some a → ∃ b, m[i]? = some b ∧ mle a b
  | [], _, i, a, _, h => by simp at h
  | x :: l, y :: m, 0, a, h, h1 => by simp at h1; subst h1; exact ⟨y, rfl, h.1⟩
  | x :: l, y :: m, i + 1, a, h, h1 => by
    obtain ⟨b, h2, h3⟩ := PLe.at' (i := i) h.2 (by simpa using h1)
    exact ⟨b, by simpa using h2, h3⟩
  | _ :: _, [], _, _, h, _ => h.elim
theorem foldO_mono {c : List Str} : ∀ (l x : List Fu) (m m' : List Nat) (v v' : Nat), l.length = m.length → PLe m m' → mle v v' → mle (foldO c l m v) (foldO c (l ++ x) m' v')
  | [], x, [], m', v, v', _, _, h => by
    rw [List.nil_append]
    have e : foldO c [] [] v = v := by simp [foldO]
    rw [e]
    exact h.trans (foldO_ge x m' v')
  | f :: l, x, h :: m, h' :: m', v, v', hl, hp, hv => by
    rw [List.cons_append, foldO, foldO]
    refine foldO_mono l x m m' _ _ (by simpa using hl) hp.2 ?_
    cases has c f.nm with
    | true => exact hv.or2 hp.1
    | false => exact hv
  | [], x, _ :: _, m', v, v', hl, _, _ => by simp at hl
  | _ :: _, x, [], m', v, v', hl, _, _ => by simp at hl
  | _ :: _, x, _ :: _, [], v, v', _, hp, _ => hp.elim
noncomputable def onceM (F : List Fu) (H : List Nat) (s : Nat) (e : Ex) : Nat := bif app e then foldO (calls e) F H (own e) ||| s else foldO (calls e) F H (own e)
theorem onceM_lt {F : List Fu} {H : List Nat} {s : Nat} {e : Ex} (hH : All128 H) (hs : s < 128) (hb : bk e.enc ≤ BIG) : onceM F H s e < 128 := by
  unfold onceM
  have h := foldO_lt (c := calls e) (l := F) hH (own_of hb).2
  cases app e with
  | true => exact (orI h hs).2
  | false => exact h
theorem onceM_own (F : List Fu) (H : List Nat) (s : Nat) (e : Ex) : mle (own e) (onceM F H s e) := by
  unfold onceM
  cases app e with
  | true => exact (foldO_ge F H _).trans (mle.left _ _)
  | false => exact foldO_ge F H _
theorem onceM_at {F : List Fu} {H : List Nat} {s : Nat} {e : Ex} {i : Nat} {f : Fu} {h : Nat} (h1 : F[i]? = some f) (h2 : H[i]? = some h) (h3 : has (calls e) f.nm = true) : mle h (onceM F H s e) := by
  have := foldO_at F H (own e) i f h h1 h2 h3
  unfold onceM
  cases app e with
  | true => exact this.trans (mle.left _ _)
  | false => exact this
theorem onceM_mono {F x : List Fu} {H H' : List Nat} {s s' : Nat} (e : Ex) (hl : F.length = H.length) (hp : PLe H H') (hs : mle s s') : mle (onceM F H s e) (onceM (F ++ x) H' s' e) := by
  have := foldO_mono (c := calls e) F x H H' (own e) (own e) hl hp (mle.refl _)
  unfold onceM
  cases app e with
  | true => exact this.or2 hs
  | false => exact this
theorem l89 {p : Pq} {F : List Fu} (hF : F.length ≤ BIG) {H : List Nat} (hH : All128 H) (hlen : F.length = H.length) {s : Nat} (hs : s < 128) {e : Ex} (hb : bk e.enc ≤ BIG) : ∀ (l : List Fu) (m : List Nat) (k v : Nat), F.drop k = l → H.drop k = m → v < 128 →
    L89_11014 (H.map eI) (s : Int) (v : Int) (F.map eFu) k p.nm p.ver p.us (p.ds.map eDt) (p.ts.map eTr) (p.is.map eIm) (p.fs.map eFu) (p.ac.map eAc) e.kind e.num e.text (e.names.map .str) e.types (e.args.map Ex.enc) (e.arms.map eArm) e.at_ =
      some (.pv (.int .i64 ((bif app e then foldO (calls e) l m v ||| s else foldO (calls e) l m v : Nat) : Int)), [])
  | [], m, k, v, h, hm, hv => by
    have h107 := app_of hb
    rw [e89_11014, endK_map h, ← ex_enc e, h107]
    have e0 : foldO (calls e) [] m v = v := by simp [foldO]
    simp only [cond_false, Option.bind_some, retPV_pv, fits_bool, toBool_bool, cond_true, e0]
    cases app e with
    | true => simp only [cond_true]; rw [(orI hv hs).1]
    | false => rfl
  | x :: l, [], k, v, h, hm, hv => by
    have e1 := congrArg List.length h
    have e2 := congrArg List.length hm
    simp at e1 e2
    omega
  | x :: l, y :: m, k, v, h, hm, hv => by
    have A := atK_map (f := eFu) h (len_max hF)
    have A' := atK h (len_max hF)
    have B := atK_map (f := eI) hm (by have := len_max hF; omega)
    have B' := atK hm (by have := len_max hF; omega)
    obtain ⟨h56, hcl⟩ := calls_of hb
    have h55 := v55 (xs := calls e) (s := x.nm) (len_max hcl)
    have hy : y < 128 := hH y (mem_drop hm)
    have ih := fun v hv => l89 (p := p) hF hH hlen hs hb l m (k + 1) v A'.drop B'.drop hv
    rw [e89_11014]
    simp only [A.lt, A.ge, A.get, A.next, cond_true, Option.bind_some]
    simp only [fu_fits, fu_nm, cond_true, ← ex_enc e, h56, h55, Option.bind_some, retPV_pv, fits_lstS, toLst_lst, fits_bool, toBool_bool, B.get, eI_fits, eI_int]
    rw [foldO]
    cases has (calls e) x.nm with
    | true =>
      simp only [cond_true]
      rw [(orI hv hy).1]
      exact ih _ (orI hv hy).2
    | false =>
      simp only [cond_false]
      exact ih _ hv
theorem v89 {p : Pq} (hp : bk p.enc ≤ BIG) {H : List Nat} (hH : All128 H) (hlen : (funs p).length = H.length) {s : Nat} (hs : s < 128) {e : Ex} (hb : bk e.enc ≤ BIG) :
    V 89 [.pv p.enc, .pv e.enc, .pv (.lst (H.map eI)), .pv (.int .i64 (s : Int))] = some (.pv (.int .i64 (onceM (funs p) H s e : Int)), []) := by
  have h88 := v88 hp
  have hown := own_of hb
  have hL := l89 (p := p) (funs_len hp) hH hlen hs hb (funs p) H 0 (own e) rfl rfl hown.2
  have k := e89 p.nm p.ver p.us (p.ds.map eDt) (p.ts.map eTr) (p.is.map eIm) (p.fs.map eFu) (p.ac.map eAc) e.kind e.num e.text (e.names.map .str) e.types (e.args.map Ex.enc) (e.arms.map eArm) e.at_ (H.map eI) (s : Int)
  rw [← ex_enc e, ← pq_enc p, hown.1, h88] at k
  rw [k]
  simp only [Option.bind_some, retPV_pv, retPV_bld, fits_i64, toInt_int, fits_lstS, toLst_lst, cond_true]
  exact hL

/-! #### A round -/
noncomputable def stepH (p : Pq) (H : List Nat) (s : Nat) : List Nat := (funs p).map fun f : Fu => onceM (funs p) H s f.body
def isRecv (e : Ex) : Bool := e.kind == 10
noncomputable def nodes (l : List Ex) : List Ex := l.flatMap fun e => (wk e).filter isRecv
def orAll (g : Ex → Nat) : List Ex → Nat → Nat
  | [], v => v
  | e :: l, v => orAll g l (v ||| g e)
theorem orAll_append (g : Ex → Nat) : ∀ (a b : List Ex) (v : Nat), orAll g (a ++ b) v = orAll g b (orAll g a v)
  | [], b, v => rfl
  | e :: a, b, v => orAll_append g a b _
theorem orAll_lt {g : Ex → Nat} : ∀ {l : List Ex} {v : Nat}, (∀ e, e ∈ l → g e < 128) → v < 128 → orAll g l v < 128
  | [], v, _, hv => hv
  | e :: l, v, hg, hv => orAll_lt (l := l) (fun x hx => hg x (by simp [hx])) (orI hv (hg e (by simp))).2
theorem orAll_ge (g : Ex → Nat) : ∀ (l : List Ex) (v : Nat), mle v (orAll g l v)
  | [], v => mle.refl v
  | e :: l, v => (mle.left v _).trans (orAll_ge g l _)
theorem orAll_at (g : Ex → Nat) : ∀ (l : List Ex) (v : Nat) (e : Ex), e ∈ l → mle (g e) (orAll g l v)
  | [], v, e, h => by cases h
  | x :: l, v, e, h => by
    rcases List.mem_cons.1 h with rfl | h
    · exact (mle.right v _).trans (orAll_ge g l _)
    · exact orAll_at g l _ e h
theorem orAll_up {g : Ex → Nat} {X : Nat} : ∀ {l : List Ex} {v : Nat}, mle v X → (∀ e, e ∈ l → mle (g e) X) → mle (orAll g l v) X
  | [], v, hv, _ => hv
  | e :: l, v, hv, h => orAll_up (l := l) (hv.or (h e (by simp))) fun x hx => h x (by simp [hx])
noncomputable def stepS (p : Pq) (H : List Nat) (s : Nat) : Nat := orAll (onceM (funs p) H s) (nodes (bodies p)) s
theorem node_bk {l : List Ex} (hl : ∀ e, e ∈ l → bk e.enc ≤ BIG) : ∀ e, e ∈ nodes l → bk e.enc ≤ BIG := by
  intro e he
  obtain ⟨b, hb, he⟩ := List.mem_flatMap.1 he
  exact (wk_of (hl b hb)).2.2 e (List.mem_filter.1 he).1
theorem natcI (m : Nat) : (Nat.blt 0 (eI m).cells.length && true) = true := nrfl rfl
theorem setcI (m : Nat) (o : Nat) (p : PV) : (eI m).setc o p = p := nrfl rfl
theorem set_midE {α : Type} (A : List α) (x y : α) (B : List α) : (A ++ x :: B).set A.length y = A ++ y :: B := by
  induction A with
  | nil => rfl
  | cons a A ih => simp [ih]
theorem l46a {p : Pq} (hp : bk p.enc ≤ BIG) {H : List Nat} (hH : All128 H) (hlen : (funs p).length = H.length) {s : Nat} (hs : s < 128) : ∀ (l d : List Fu), d ++ l = funs p →
    L46_1114541014 ((funs p).map eFu) (s : Int) (d.length : Nat) p.nm p.ver p.us (p.ds.map eDt) (p.ts.map eTr) (p.is.map eIm) (p.fs.map eFu) (p.ac.map eAc) (H.map eI) ((d.map (fun f : Fu => onceM (funs p) H s f.body) ++ l.map (fun _ => 0)).map eI) =
      L46_11145411014 ((funs p).map eFu) (s : Int) (s : Int) ((bodies p).map Ex.enc) 0 p.nm p.ver p.us (p.ds.map eDt) (p.ts.map eTr) (p.is.map eIm) (p.fs.map eFu) (p.ac.map eAc) (H.map eI) ((stepH p H s).map eI)
  | [], d, h => by
    have hd : (funs p).drop d.length = [] := by rw [← h]; simp
    have h90 := v90 hp
    rw [e46_1114541014, endK_map hd, ← pq_enc p, h90]
    simp only [cond_false, Option.bind_some, retPV_bld, fits_lstS, toLst_lst, cond_true]
    rw [List.append_nil] at h
    rw [← h, List.map_nil, List.append_nil]
    unfold stepH
    rw [h]
  | x :: l, d, h => by
    have hd : (funs p).drop d.length = x :: l := by rw [← h]; simp
    have hF := funs_len hp
    have A' := atK hd (len_max hF)
    have A := atK_map (f := eFu) hd (len_max hF)
    have hxb := funs_bk hp x (by rw [← h]; simp)
    have h89 := v89 hp hH hlen hs hxb
    have ih := l46a hp hH hlen hs l (d ++ [x]) (by rw [← h]; simp)
    have g0 : ((d.map (fun f : Fu => onceM (funs p) H s f.body) ++ (x :: l).map (fun _ => 0)).map eI) = (d.map (fun f : Fu => onceM (funs p) H s f.body)).map eI ++ eI 0 :: (l.map (fun _ => 0)).map eI := by simp
    have hdl : ((d.length : Nat) : Int).toNat = ((d.map (fun f : Fu => onceM (funs p) H s f.body)).map eI).length := by simp
    have g1 : ((d.map (fun f : Fu => onceM (funs p) H s f.body)).map eI ++ eI 0 :: (l.map (fun _ => 0)).map eI)[((d.length : Nat) : Int).toNat]? = some (eI 0) := by
      rw [hdl]; simp
    have g2 : ((d.map (fun f : Fu => onceM (funs p) H s f.body)).map eI ++ eI 0 :: (l.map (fun _ => 0)).map eI).set ((d.length : Nat) : Int).toNat (.int .i64 (onceM (funs p) H s x.body : Int)) = (((d ++ [x]).map (fun f : Fu => onceM (funs p) H s f.body) ++ l.map (fun _ => 0)).map eI) := by
      rw [hdl, set_midE]; simp [eI]
    have g3 : decide ((d.length : Int) < (((d.map (fun f : Fu => onceM (funs p) H s f.body)).map eI ++ eI 0 :: (l.map (fun _ => 0)).map eI).length : Int)) = true := decide_eq_true (by simp; omega)
    rw [g0, e46_1114541014]
    simp only [A.lt, A.ge, A.get, A.next, g1, g3, cond_true, Option.bind_some, Bool.and_true]
    simp only [fu_fits, fu_ex, ← pq_enc p, cond_true, h89, Option.bind_some, retPV_pv, fits_i64, toInt_int]
    rw [show (Nat.blt 0 (eI 0).cells.length) = true from rfl, setcI, g2]
    simp only [cond_true]
    have e1 : ((d.length + 1 : Nat) : Int) = (((d ++ [x]).length : Nat) : Int) := by simp
    rw [e1, ih]
theorem l46c {p : Pq} (hp : bk p.enc ≤ BIG) {H : List Nat} (hH : All128 H) (hlen : (funs p).length = H.length) {s : Nat} (hs : s < 128) {v v1 : List PV} (i2 : Int) {W : List Ex} (hW : W.length ≤ BIG) (hWb : ∀ e, e ∈ W → bk e.enc ≤ BIG) {N : List PV} : ∀ (l : List Ex) (k a : Nat), W.drop k = l → a < 128 →
    L46_1114541101451104114 v (s : Int) (a : Int) v1 i2 (W.map Ex.enc) k p.nm p.ver p.us (p.ds.map eDt) (p.ts.map eTr) (p.is.map eIm) (p.fs.map eFu) (p.ac.map eAc) (H.map eI) N =
      L46_11145411014 v (s : Int) ((orAll (onceM (funs p) H s) (l.filter isRecv) a : Nat) : Int) v1 (IntKind.i64.wrap (i2 + 1)) p.nm p.ver p.us (p.ds.map eDt) (p.ts.map eTr) (p.is.map eIm) (p.fs.map eFu) (p.ac.map eAc) (H.map eI) N
  | [], k, a, h, ha => by rw [e46_1114541101451104114, endK_map h]; rfl
  | x :: l, k, a, h, ha => by
    have A := atK_map (f := Ex.enc) h (len_max hW)
    have A' := atK h (len_max hW)
    have hxb := hWb x (mem_drop h)
    have h89 := v89 hp hH hlen hs hxb
    have hlt := onceM_lt (F := funs p) hH hs hxb
    have ih := fun a ha => l46c hp hH hlen hs (v := v) (v1 := v1) i2 hW hWb (N := N) l (k + 1) a A'.drop ha
    rw [e46_1114541101451104114]
    simp only [A.lt, A.ge, A.get, A.next, cond_true, Option.bind_some]
    simp only [ex_fits, ex_eta, ← pq_enc p, cond_true, h89, Option.bind_some, retPV_pv, fits_i64, toInt_int]
    simp only [ex_0]
    cases hk : x.kind == 10 with
    | true =>
      simp only [cond_true]
      rw [(orI ha hlt).1, ih _ (orI ha hlt).2, List.filter_cons_of_pos (by unfold isRecv; exact hk)]
      rfl
    | false =>
      simp only [cond_false]
      rw [ih _ ha, List.filter_cons_of_neg (by unfold isRecv; rw [hk]; decide)]
theorem l46b {p : Pq} (hp : bk p.enc ≤ BIG) {H : List Nat} (hH : All128 H) (hlen : (funs p).length = H.length) {s : Nat} (hs : s < 128) {v : List PV} {B : List Ex} (hB : B.length ≤ maxLen) (hBb : ∀ e, e ∈ B → bk e.enc ≤ BIG) {N : List PV} : ∀ (l : List Ex) (k a : Nat), B.drop k = l → a < 128 →
    L46_11145411014 v (s : Int) (a : Int) (B.map Ex.enc) k p.nm p.ver p.us (p.ds.map eDt) (p.ts.map eTr) (p.is.map eIm) (p.fs.map eFu) (p.ac.map eAc) (H.map eI) N =
      bif (((orAll (onceM (funs p) H s) (nodes l) a : Nat) : Int) == (s : Int)) then
        ((V 23 [.pv (.lst N), .pv (.lst (H.map eI))]).bind fun r1 => ((retPV r1).bind fun r2 => (bif (Sh.bool).fits r2 then bif r2.toBool then some (.pv (.tup [.lst (H.map eI), .int .i64 (s : Int)]), []) else L46_1114 v ((orAll (onceM (funs p) H s) (nodes l) a : Nat) : Int) p.nm p.ver p.us (p.ds.map eDt) (p.ts.map eTr) (p.is.map eIm) (p.fs.map eFu) (p.ac.map eAc) N else none)))
      else L46_1114 v ((orAll (onceM (funs p) H s) (nodes l) a : Nat) : Int) p.nm p.ver p.us (p.ds.map eDt) (p.ts.map eTr) (p.is.map eIm) (p.fs.map eFu) (p.ac.map eAc) N
  | [], k, a, h, ha => by rw [e46_11145411014, endK_map h]; rfl
  | x :: l, k, a, h, ha => by
    have A := atK_map (f := Ex.enc) h hB
    have A' := atK h hB
    obtain ⟨w1, w2, w3⟩ := wk_of (hBb x (mem_drop h))
    have hn : nodes (x :: l) = (wk x).filter isRecv ++ nodes l := by unfold nodes; rw [List.flatMap_cons]
    have hlt : orAll (onceM (funs p) H s) ((wk x).filter isRecv) a < 128 := orAll_lt (fun e he => onceM_lt hH hs (w3 e (List.mem_filter.1 he).1)) ha
    have hc := l46c hp hH hlen hs (v := v) (v1 := B.map Ex.enc) (k : Int) w2 w3 (N := N) (wk x) 0 a rfl ha
    rw [A.next] at hc
    have ih := l46b hp hH hlen hs (v := v) hB hBb (N := N) l (k + 1) _ A'.drop hlt
    rw [e46_11145411014]
    simp only [A.lt, A.ge, A.get, cond_true, Option.bind_some]
    simp only [ex_fits, ex_eta, cond_true, w1, Option.bind_some, retPV_bld, fits_lstS, toLst_lst]
    rw [show L46_1114541101451104114 v (s : Int) (a : Int) (B.map Ex.enc) k ((wk x).map Ex.enc) 0 p.nm p.ver p.us (p.ds.map eDt) (p.ts.map eTr) (p.is.map eIm) (p.fs.map eFu) (p.ac.map eAc) (H.map eI) N = _ from hc, ih, hn, orAll_append]
theorem l23 {a b : List Nat} (hl : a.length = b.length) (ha : a.length ≤ maxLen) : ∀ (l m : List Nat) (k : Nat), a.drop k = l → b.drop k = m → L23_11014 (a.map eI) (b.map eI) k = some (.pv (.bool (decide (l = m))), [])
  | [], m, k, h, h2 => by
    have : m = [] := by
      have e1 := congrArg List.length h
      have e2 := congrArg List.length h2
      simp at e1 e2
      exact List.eq_nil_of_length_eq_zero (by omega)
    subst this
    rw [e23_11014, endK_map h]
    rfl
  | x :: l, [], k, h, h2 => by
    have e1 := congrArg List.length h
    have e2 := congrArg List.length h2
    simp at e1 e2
    omega
  | x :: l, y :: m, k, h, h2 => by
    have A := atK_map (f := eI) h ha
    have A' := atK h ha
    have B := atK_map (f := eI) h2 (by omega)
    have B' := atK h2 (by omega)
    have ih := l23 hl ha l m (k + 1) A'.drop B'.drop
    rw [e23_11014]
    simp only [A.lt, A.ge, A.get, A.next, B.get, cond_true, Option.bind_some]
    simp only [eI_fits, eI_int, cond_true]
    by_cases hxy : x = y
    · subst hxy
      rw [show ((x : Int) != (x : Int)) = false from by simp]
      simp only [cond_false]
      rw [ih]
      simp
    · rw [show ((x : Int) != (y : Int)) = true from by simp; omega]
      have : ¬ (x :: l = y :: m) := by intro h; injection h with h _; exact hxy h
      rw [decide_eq_false this]
      rfl
theorem v23 {a b : List Nat} (hl : a.length = b.length) (ha : a.length ≤ maxLen) : V 23 [.pv (.lst (a.map eI)), .pv (.lst (b.map eI))] = some (.pv (.bool (decide (a = b))), []) := by
  rw [e23, show (((a.map eI).length : Int) != ((b.map eI).length : Int)) = false from by simp [hl]]
  exact l23 hl ha a b 0 rfl rfl

/-! #### The rounds -/
noncomputable def it (p : Pq) : Nat → List Nat × Nat
  | 0 => ((funs p).map (fun _ => 0), 0)
  | k + 1 => (stepH p (it p k).1 (it p k).2, stepS p (it p k).1 (it p k).2)
theorem it_len (p : Pq) (k : Nat) : (it p k).1.length = (funs p).length := by
  cases k with
  | zero => simp [it]
  | succ k => simp [it, stepH]
theorem it_ok {p : Pq} (hp : bk p.enc ≤ BIG) : ∀ k, All128 (it p k).1 ∧ (it p k).2 < 128
  | 0 => ⟨fun h hh => by simp [it] at hh; omega, by simp [it]⟩
  | k + 1 => by
    obtain ⟨h1, h2⟩ := it_ok hp k
    refine ⟨fun h hh => ?_, ?_⟩
    · simp only [it, stepH] at hh
      obtain ⟨f, hf, rfl⟩ := List.mem_map.1 hh
      exact onceM_lt h1 h2 (funs_bk hp f hf)
    · exact orAll_lt (fun e he => onceM_lt h1 h2 (node_bk (bodies_bk hp) e he)) h2
theorem PLe.map2 {α : Type} {f g : α → Nat} (l x : List α) (h : ∀ a, a ∈ l → mle (f a) (g a)) : PLe (l.map f) ((l ++ x).map g) := by
  induction l with
  | nil => trivial
  | cons a l ih => exact ⟨h a (by simp), ih fun b hb => h b (by simp [hb])⟩
/-- A program with more functions, and more bodies, has more. -/
theorem it_le {p q : Pq} {x : List Fu} (hf : funs q = funs p ++ x) (hn : ∀ e, e ∈ nodes (bodies p) → e ∈ nodes (bodies q)) : ∀ k, PLe (it p k).1 (it q k).1 ∧ mle (it p k).2 (it q k).2
  | 0 => by
    refine ⟨?_, mle.refl _⟩
    simp only [it]
    rw [hf]
    exact PLe.map2 _ _ fun _ _ => mle.refl _
  | k + 1 => by
    obtain ⟨h1, h2⟩ := it_le hf hn k
    have ho : ∀ e, mle (onceM (funs p) (it p k).1 (it p k).2 e) (onceM (funs q) (it q k).1 (it q k).2 e) := fun e => by
      rw [hf]; exact onceM_mono e (it_len p k).symm h1 h2
    refine ⟨?_, ?_⟩
    · simp only [it, stepH]
      rw [show (funs q).map (fun f : Fu => onceM (funs q) (it q k).1 (it q k).2 f.body) = (funs p ++ x).map (fun f : Fu => onceM (funs q) (it q k).1 (it q k).2 f.body) from by rw [← hf]]
      exact PLe.map2 _ _ fun f _ => ho f.body
    · simp only [it]
      exact orAll_up (h2.trans (orAll_ge _ _ _)) fun e he => (ho e).trans (orAll_at _ _ _ e (hn e he))
theorem it_up {p : Pq} : ∀ k, PLe (it p k).1 (it p (k + 1)).1 ∧ mle (it p k).2 (it p (k + 1)).2
  | 0 => by
    refine ⟨?_, mle.zero _⟩
    simp only [it, stepH]
    have := PLe.map2 (f := fun _ : Fu => 0) (g := fun f : Fu => onceM (funs p) ((funs p).map (fun _ => 0)) 0 f.body) (funs p) [] fun _ _ => mle.zero _
    rwa [List.append_nil] at this
  | k + 1 => by
    obtain ⟨h1, h2⟩ := it_up (p := p) k
    have ho : ∀ e, mle (onceM (funs p) (it p k).1 (it p k).2 e) (onceM (funs p) (it p (k + 1)).1 (it p (k + 1)).2 e) := fun e => by
      have := onceM_mono (x := []) e (it_len p k).symm h1 h2
      rwa [List.append_nil] at this
    refine ⟨?_, ?_⟩
    · have := PLe.map2 (f := fun f : Fu => onceM (funs p) (it p k).1 (it p k).2 f.body) (g := fun f : Fu => onceM (funs p) (it p (k + 1)).1 (it p (k + 1)).2 f.body) (funs p) [] fun f _ => ho f.body
      rw [List.append_nil] at this
      exact this
    · exact orAll_up (h2.trans (orAll_ge _ _ _)) fun e he => (ho e).trans (orAll_at _ _ _ e he)
def meas (H : List Nat) : Nat := (H.map fun h => 127 - h).sum
theorem meas_le : ∀ {a b : List Nat}, a.length = b.length → All128 b → PLe a b → meas b ≤ meas a ∧ (meas b = meas a → a = b)
  | [], [], _, _, _ => ⟨Nat.le_refl _, fun _ => rfl⟩
  | x :: a, y :: b, hl, hb, h => by
    obtain ⟨h1, h2⟩ := meas_le (a := a) (b := b) (by simpa using hl) (fun z hz => hb z (by simp [hz])) h.2
    have hle := h.1.le
    have hy := hb y (by simp)
    simp only [meas, List.map_cons, List.sum_cons] at h1 h2 ⊢
    refine ⟨by omega, fun he => ?_⟩
    have hxy : x = y := by omega
    rw [hxy, h2 (by omega)]
  | [], _ :: _, hl, _, _ => by simp at hl
  | _ :: _, [], hl, _, _ => by simp at hl
theorem l46 {p : Pq} (hp : bk p.enc ≤ BIG) : ∀ (M k : Nat), meas (it p k).1 + (127 - (it p k).2) ≤ M → ∃ k', it p (k' + 1) = it p k' ∧
    L46_1114 ((funs p).map eFu) ((it p k).2 : Int) p.nm p.ver p.us (p.ds.map eDt) (p.ts.map eTr) (p.is.map eIm) (p.fs.map eFu) (p.ac.map eAc) ((it p k).1.map eI) = some (.pv (.tup [.lst ((it p k').1.map eI), .int .i64 ((it p k').2 : Int)]), []) := by
  intro M
  induction M using Nat.strongRecOn with
  | _ M ih =>
    intro k hM
    obtain ⟨o1, o2⟩ := it_ok hp k
    obtain ⟨o3, o4⟩ := it_ok hp (k + 1)
    obtain ⟨u1, u2⟩ := it_up (p := p) k
    have hlen := it_len p k
    have hF := funs_len hp
    have hB := bodies_len hp
    have hg : (decide (0 ≤ (((funs p).map eFu).length : Int)) && decide ((((funs p).map eFu).length : Int) ≤ (((funs p).map eFu).length : Int)) && decide ((((funs p).map eFu).length : Int) ≤ 2147483648) && Nat.ble 8 65536 && Nat.blt 0 1) = true := by
      rw [decide_eq_true (by omega), decide_eq_true (by omega), decide_eq_true (by simp only [BIG] at hF; simp; omega)]; rfl
    have hrep : (List.replicate (((funs p).map eFu).length : Int).toNat (PV.int .i64 0)) = (([] : List Fu).map (fun f : Fu => onceM (funs p) (it p k).1 (it p k).2 f.body) ++ (funs p).map (fun _ => 0)).map eI := by
      simp [eI, Function.comp_def, List.map_const']
    have ha := l46a hp o1 hlen.symm o2 (funs p) [] rfl
    have hb := l46b hp o1 hlen.symm o2 (v := (funs p).map eFu) (B := bodies p) (by simp only [BIG] at hB; simp [maxLen]; omega) (bodies_bk hp) (N := (stepH p (it p k).1 (it p k).2).map eI) (bodies p) 0 (it p k).2 rfl o2
    have hs : orAll (onceM (funs p) (it p k).1 (it p k).2) (nodes (bodies p)) (it p k).2 = (it p (k + 1)).2 := rfl
    have hh : stepH p (it p k).1 (it p k).2 = (it p (k + 1)).1 := rfl
    have h23 := v23 (a := (it p (k + 1)).1) (b := (it p k).1) (by rw [it_len, it_len]) (by rw [it_len]; exact len_max hF)
    rw [hs, hh] at hb
    rw [hh] at ha
    rw [e46_1114, hg, hrep]
    simp only [cond_true]
    rw [show ((([] : List Fu).length : Nat) : Int) = 0 from rfl] at ha
    rw [ha]
    rw [show ((0 : Nat) : Int) = 0 from rfl] at hb
    rw [hb]
    rw [h23]
    simp only [Option.bind_some, retPV_pv, fits_bool, toBool_bool, cond_true]
    obtain ⟨m1, m2⟩ := meas_le (by rw [it_len, it_len]) o3 u1
    have hl2 := u2.le
    by_cases he : it p (k + 1) = it p k
    · refine ⟨k, he, ?_⟩
      rw [he]
      simp
    · have hne : ¬ ((it p (k + 1)).2 = (it p k).2 ∧ (it p (k + 1)).1 = (it p k).1) := fun h => he (Prod.ext h.2 h.1)
      have hdec : meas (it p (k + 1)).1 + (127 - (it p (k + 1)).2) < M := by
        by_cases h1 : meas (it p (k + 1)).1 = meas (it p k).1
        · have := m2 h1
          have : (it p (k + 1)).2 ≠ (it p k).2 := fun h => hne ⟨h, this.symm⟩
          omega
        · omega
      obtain ⟨k', g1, g2⟩ := ih _ hdec (k + 1) (Nat.le_refl _)
      refine ⟨k', g1, ?_⟩
      by_cases h1 : (it p (k + 1)).2 = (it p k).2
      · rw [show (((it p (k + 1)).2 : Int) == ((it p k).2 : Int)) = true from by rw [h1]; simp]
        have : ¬ (it p (k + 1)).1 = (it p k).1 := fun h => hne ⟨h1, h⟩
        rw [decide_eq_false this]
        exact g2
      · rw [show (((it p (k + 1)).2 : Int) == ((it p k).2 : Int)) = false from by simp; omega]
        exact g2
theorem v46 {p : Pq} (hp : bk p.enc ≤ BIG) : ∃ k, it p (k + 1) = it p k ∧ V 46 [.pv p.enc] = some (.pv (.tup [.lst ((it p k).1.map eI), .int .i64 ((it p k).2 : Int)]), []) := by
  obtain ⟨k, g1, g2⟩ := l46 hp _ 0 (Nat.le_refl _)
  have h88 := v88 hp
  have hF := funs_len hp
  refine ⟨k, g1, ?_⟩
  have hg : (decide (0 ≤ (((funs p).map eFu).length : Int)) && decide ((((funs p).map eFu).length : Int) ≤ (((funs p).map eFu).length : Int)) && decide ((((funs p).map eFu).length : Int) ≤ 2147483648) && Nat.ble 8 65536 && Nat.blt 0 1) = true := by
    rw [decide_eq_true (by omega), decide_eq_true (by omega), decide_eq_true (by simp only [BIG] at hF; simp; omega)]; rfl
  have hrep : (List.replicate (((funs p).map eFu).length : Int).toNat (PV.int .i64 0)) = (it p 0).1.map eI := by
    simp [it, eI, Function.comp_def, List.map_const']
  rw [pq_enc] at h88 ⊢
  rw [e46, h88]
  simp only [Option.bind_some, retPV_bld, fits_lstS, toLst_lst, cond_true, hg, hrep]
  exact g2
theorem fitsLI (l : List PV) (n : Int) : (Sh.tup [Sh.lst, Sh.int .i64]).fits (.tup [.lst l, .int .i64 n]) = true := nrfl rfl
theorem it_stable {p : Pq} {k : Nat} (h : it p (k + 1) = it p k) : ∀ j, it p (k + j) = it p k
  | 0 => rfl
  | j + 1 => by
    have ih := it_stable h j
    have e : it p (k + (j + 1)) = (stepH p (it p (k + j)).1 (it p (k + j)).2, stepS p (it p (k + j)).1 (it p (k + j)).2) := rfl
    rw [e, ih]
    exact h
theorem v44 : V 44 [] = some (.pv (.bool true), []) := (V_A pa 44 []).le 40 _ (by kernel_rfl)

theorem fu_1 (f : Fu) : ((eFu f).c 1).toLst = f.a := by rw [fu_enc]; rfl
theorem fu_2 (f : Fu) : ((eFu f).c 2).toLst = f.b := by rw [fu_enc]; rfl
theorem fu_3 (f : Fu) : ((eFu f).c 3).toLst = f.c := by rw [fu_enc]; rfl
theorem fu_4 (f : Fu) : ((eFu f).c 4).toInt = f.k := by rw [fu_enc]; rfl
theorem fu_5 (f : Fu) : ((eFu f).c 5).toStr = f.t := by rw [fu_enc]; rfl
theorem fu_6 (f : Fu) : ((eFu f).c 6).toLst = f.d := by rw [fu_enc]; rfl
theorem fu_7 (f : Fu) : ((eFu f).c 7).toInt = f.body.kind := by rw [fu_enc]; rfl
theorem fu_8 (f : Fu) : ((eFu f).c 8).toInt = f.body.num := by rw [fu_enc]; rfl
theorem fu_9 (f : Fu) : ((eFu f).c 9).toStr = f.body.text := by rw [fu_enc]; rfl
theorem fu_10 (f : Fu) : ((eFu f).c 10).toLst = f.body.names.map .str := by rw [fu_enc]; rfl
theorem fu_11 (f : Fu) : ((eFu f).c 11).toLst = f.body.types := by rw [fu_enc]; rfl
theorem fu_12 (f : Fu) : ((eFu f).c 12).toLst = f.body.args.map Ex.enc := by rw [fu_enc]; rfl
theorem fu_13 (f : Fu) : ((eFu f).c 13).toLst = f.body.arms.map eArm := by rw [fu_enc]; rfl
theorem fu_14 (f : Fu) : ((eFu f).c 14).toInt = f.body.at_ := by rw [fu_enc]; rfl

/-! #### EffectLeast -/
theorem l15b {p : Pq} (hp : bk p.enc ≤ BIG) {k : Nat} (hk : it p (k + 1) = it p k) {i : Nat} {f : Fu} {h : Nat} (hf : (funs p)[i]? = some f) (hh : (it p k).1[i]? = some h) (hb : h < 128) : ∀ (l : List Fu) (m : List Nat) (j : Nat), (funs p).drop j = l → (it p k).1.drop j = m →
    L15_111111014511041114 ((it p k).1.map eI) ((funs p).map eFu) i j p.nm p.ver p.us (p.ds.map eDt) (p.ts.map eTr) (p.is.map eIm) (p.fs.map eFu) (p.ac.map eAc) f.nm f.a f.b f.c f.k f.t f.d f.body.kind f.body.num f.body.text (f.body.names.map .str) f.body.types (f.body.args.map Ex.enc) (f.body.arms.map eArm) f.body.at_ =
      L15_111111014 ((it p k).1.map eI) ((funs p).map eFu) (IntKind.i64.wrap ((i : Int) + 1)) p.nm p.ver p.us (p.ds.map eDt) (p.ts.map eTr) (p.is.map eIm) (p.fs.map eFu) (p.ac.map eAc)
  | [], m, j, h1, h2 => by rw [e15_111111014511041114, endK_map h1]; rfl
  | x :: l, [], j, h1, h2 => by
    have e1 := congrArg List.length h1
    have e2 := congrArg List.length h2
    have := it_len p k
    simp at e1 e2
    omega
  | x :: l, y :: m, j, h1, h2 => by
    have hF := funs_len hp
    have A := atK_map (f := eFu) h1 (len_max hF)
    have A' := atK h1 (len_max hF)
    have B := atK_map (f := eI) h2 (by rw [it_len]; exact len_max hF)
    have B' := atK h2 (by rw [it_len]; exact len_max hF)
    have ih := l15b hp hk hf hh hb l m (j + 1) A'.drop B'.drop
    have hxb := funs_bk hp x (mem_drop h1)
    obtain ⟨h56, hcl⟩ := calls_of hxb
    have h55 := v55 (xs := calls x.body) (s := f.nm) (len_max hcl)
    have hy : y < 128 := (it_ok hp k).1 y (mem_drop h2)
    have gi : ((it p k).1.map eI)[((i : Nat) : Int).toNat]? = some (eI h) := by simp [hh]
    have yv : y = onceM (funs p) (it p k).1 (it p k).2 x.body := by
      have : (it p (k + 1)).1[j]? = some y := by rw [hk]; exact B'.get'
      simp only [it, stepH, List.getElem?_map, A'.get', Option.map_some] at this
      exact (Option.some.inj this).symm
    rw [e15_111111014511041114]
    simp only [A.lt, A.ge, A.get, A.next, cond_true, Option.bind_some]
    simp only [fu_fits, fu_ex, cond_true, h56, h55, Option.bind_some, retPV_pv, fits_lstS, toLst_lst, fits_bool, toBool_bool, B.get, gi, eI_fits, eI_int, decide_eq_true (show (0 : Int) ≤ (i : Int) by omega)]
    cases hc : has (calls x.body) f.nm with
    | false => exact ih
    | true =>
      have : mle h y := by rw [yv]; exact onceM_at hf hh hc
      rw [andNotI hb hy this]
      exact ih
theorem l15 {p : Pq} (hp : bk p.enc ≤ BIG) {k : Nat} (hk : it p (k + 1) = it p k) (hv : V 46 [.pv p.enc] = some (.pv (.tup [.lst ((it p k).1.map eI), .int .i64 ((it p k).2 : Int)]), [])) : ∀ (l : List Fu) (m : List Nat) (i : Nat), (funs p).drop i = l → (it p k).1.drop i = m →
    L15_111111014 ((it p k).1.map eI) ((funs p).map eFu) i p.nm p.ver p.us (p.ds.map eDt) (p.ts.map eTr) (p.is.map eIm) (p.fs.map eFu) (p.ac.map eAc) = some (.pv (.bool true), [])
  | [], m, i, h1, h2 => by rw [e15_111111014, endK_map h1]; rfl
  | x :: l, [], i, h1, h2 => by
    have e1 := congrArg List.length h1
    have e2 := congrArg List.length h2
    have := it_len p k
    simp at e1 e2
    omega
  | x :: l, y :: m, i, h1, h2 => by
    have hF := funs_len hp
    have A := atK_map (f := eFu) h1 (len_max hF)
    have A' := atK h1 (len_max hF)
    have B := atK_map (f := eI) h2 (by rw [it_len]; exact len_max hF)
    have B' := atK h2 (by rw [it_len]; exact len_max hF)
    have ih := l15 hp hk hv l m (i + 1) A'.drop B'.drop
    have hxb := funs_bk hp x (mem_drop h1)
    obtain ⟨o1, o2⟩ := it_ok hp k
    have h89 := v89 hp o1 (it_len p k).symm o2 hxb
    have hy : y < 128 := o1 y (mem_drop h2)
    obtain ⟨ow1, ow2⟩ := own_of hxb
    have yv : y = onceM (funs p) (it p k).1 (it p k).2 x.body := by
      have : (it p (k + 1)).1[i]? = some y := by rw [hk]; exact B'.get'
      simp only [it, stepH, List.getElem?_map, A'.get', Option.map_some] at this
      exact (Option.some.inj this).symm
    have h53 : V 53 [.pv p.enc, .pv x.body.enc] = some (.pv (.int .i64 (y : Int)), []) := by
      have e := e53 p.nm p.ver p.us (p.ds.map eDt) (p.ts.map eTr) (p.is.map eIm) (p.fs.map eFu) (p.ac.map eAc) x.body.kind x.body.num x.body.text (x.body.names.map .str) x.body.types (x.body.args.map Ex.enc) (x.body.arms.map eArm) x.body.at_
      rw [← ex_enc x.body, ← pq_enc p, hv] at e
      rw [e]
      simp only [Option.bind_some, retPV_pv, fitsLI, cond_true, r_zero, r_succ, toLst_lst, toInt_int, h89, fits_i64]
      rw [yv]
    have hm : mle (own x.body) y := by rw [yv]; exact onceM_own _ _ _ _
    have hin := l15b hp hk A'.get' B'.get' hy (funs p) (it p k).1 0 rfl rfl
    rw [A.next] at hin
    rw [e15_111111014]
    simp only [A.lt, A.ge, A.get, cond_true, Option.bind_some]
    simp only [fu_fits, fu_ex, ← pq_enc p, cond_true, B.get, eI_fits, eI_int, Option.bind_some, h53, ow1, retPV_pv, fits_i64, toInt_int]
    rw [show ((y : Int) != (y : Int)) = false from by simp, andNotI ow2 hy hm]
    simp only [cond_false, cond_true, decide_eq_true (show (0 : Int) ≤ (i : Int) by omega), show ((0 : Int) != 0) = false from rfl]
    simp only [fu_nm, fu_1, fu_2, fu_3, fu_4, fu_5, fu_6, fu_7, fu_8, fu_9, fu_10, fu_11, fu_12, fu_13, fu_14]
    exact hin.trans ih
theorem law15 {p : Pq} (hp : bk p.enc ≤ BIG) : V 15 [.pv p.enc] = some (.pv (.bool true), []) := by
  obtain ⟨b, h36⟩ := v36 hp
  obtain ⟨k, hk, hv⟩ := v46 hp
  have h52 := v52' hp
  have hL := l15 hp hk hv (funs p) (it p k).1 0 rfl rfl
  have hlen := it_len p k
  rw [pq_enc] at h36 hv h52 ⊢
  rw [e15, h36, v44, hv, h52]
  simp only [Option.bind_some, retPV_pv, retPV_bld, fits_bool, toBool_bool, fits_lstS, toLst_lst, cond_true, Bool.not_true, cond_false, fitsLI, r_zero, List.length_map, hlen]
  rw [show (((funs p).length : Int) != ((funs p).length : Int)) = false from by simp]
  cases b with
  | false => rfl
  | true => exact hL

/-! #### EffectMore -/
theorem l13 {a b : List Nat} (ha : a.length ≤ maxLen) (hb : b.length ≤ maxLen) (oa : All128 a) (ob : All128 b) (hp : PLe a b) : ∀ (l : List Nat) (k : Nat), a.drop k = l → L13_11111111014 (a.map eI) (b.map eI) k = some (.pv (.bool true), [])
  | [], k, h => by rw [e13_11111111014, endK_map h]; rfl
  | x :: l, k, h => by
    have A := atK_map (f := eI) h ha
    have A' := atK h ha
    obtain ⟨y, hy, hxy⟩ := hp.at' A'.get'
    have gb : (b.map eI)[((k : Nat) : Int).toNat]? = some (eI y) := by simp [hy]
    have ih := l13 ha hb oa ob hp l (k + 1) A'.drop
    rw [e13_11111111014]
    simp only [A.lt, A.ge, A.get, A.next, gb, cond_true, Option.bind_some]
    simp only [eI_fits, eI_int, cond_true]
    rw [andNotI (oa x (mem_drop h)) (ob y (List.mem_of_getElem? hy)) hxy]
    exact ih
def addF (p : Pq) (f : Fu) : Pq := ⟨p.nm, p.ver, p.us, p.ds, p.ts, p.is, p.fs ++ [f], p.ac⟩
theorem addF_bk (p : Pq) (f : Fu) : bk (addF p f).enc = bk p.enc + bk (eFu f) := by
  rw [pq_enc, pq_enc]
  simp only [addF, bk, bkL, List.map_append, List.map_cons, List.map_nil, bkL_append]
  omega
theorem addF_funs (p : Pq) (f : Fu) : funs (addF p f) = funs p ++ [f] := by simp [funs, addF]
theorem addF_nodes (p : Pq) (f : Fu) : ∀ e, e ∈ nodes (bodies p) → e ∈ nodes (bodies (addF p f)) := by
  intro e he
  obtain ⟨b, hb, he⟩ := List.mem_flatMap.1 he
  refine List.mem_flatMap.2 ⟨b, ?_, he⟩
  unfold bodies at hb ⊢
  rw [addF_funs]
  rcases List.mem_append.1 hb with hb | hb
  · exact List.mem_append_left _ (by rw [List.map_append]; exact List.mem_append_left _ hb)
  · exact List.mem_append_right _ hb
theorem law13 {p : Pq} {f : Fu} (h : bk p.enc + bk (eFu f) ≤ BIG) : V 13 [.pv p.enc, .pv (eFu f)] = some (.pv (.bool true), []) := by
  have hp : bk p.enc ≤ BIG := by omega
  have hq : bk (addF p f).enc ≤ BIG := by rw [addF_bk]; omega
  have hfb : bk f.body.enc ≤ BIG := by have := bk_fu f; omega
  obtain ⟨b, h36⟩ := v36 hp
  obtain ⟨n, h43, _⟩ := v43 hfb
  obtain ⟨kp, sp, hvp⟩ := v46 hp
  obtain ⟨kq, sq, hvq⟩ := v46 hq
  have hle := it_le (x := [f]) (addF_funs p f) (addF_nodes p f) (kp + kq)
  have e1 := it_stable sp kq
  have e2 : it (addF p f) (kp + kq) = it (addF p f) kq := by rw [Nat.add_comm]; exact it_stable sq kp
  rw [e1, e2] at hle
  obtain ⟨op, os⟩ := it_ok hp kp
  obtain ⟨oq, ot⟩ := it_ok hq kq
  have lp := it_len p kp
  have lq := it_len (addF p f) kq
  rw [addF_funs, List.length_append] at lq
  have hF := funs_len hp
  have hF' := hF
  simp only [BIG] at hF'
  have h45 : V 45 [.pv (.lst (p.fs.map eFu))] = some (.bld 15 (p.fs.map eFu), []) := by
    have h1 := bk_pq p
    have h3 := len_map eFu p.fs
    rw [e45]
    unfold cloneOut
    have h2 : small 0 (p.fs.map eFu).length 272 = true := small_of (by simp only [BIG] at hp; simp; omega)
    rw [headOk_fu, h2]
    rfl
  have hsm : small (p.fs.map eFu).length 1 272 = true := small_of (by
    have h1 := bk_pq p
    have h3 := len_map eFu p.fs
    simp only [BIG] at hp; simp; omega)
  have hsm' : small p.fs.length 1 272 = true := by simpa using hsm
  have hL := l13 (a := (it p kp).1) (b := (it (addF p f) kq).1) (by rw [lp]; exact len_max hF) (by rw [lq]; simp [maxLen]; omega) op oq hle.1 (it p kp).1 0 rfl
  have hq2 : V 46 [.pv (.agg [.str p.nm, .int .i64 p.ver, .lst p.us, .lst (p.ds.map eDt), .lst (p.ts.map eTr), .lst (p.is.map eIm), .lst (p.fs.map eFu ++ [eFu f]), .lst (p.ac.map eAc)])] = some (.pv (.tup [.lst ((it (addF p f) kq).1.map eI), .int .i64 ((it (addF p f) kq).2 : Int)]), []) := by
    rw [← hvq, pq_enc]
    simp [addF]
  have k := e13 p.nm p.ver p.us (p.ds.map eDt) (p.ts.map eTr) (p.is.map eIm) (p.fs.map eFu) (p.ac.map eAc) f.nm f.a f.b f.c f.k f.t f.d f.body.kind f.body.num f.body.text (f.body.names.map .str) f.body.types (f.body.args.map Ex.enc) (f.body.arms.map eArm) f.body.at_
  rw [← fu_enc f, ← ex_enc f.body, ← pq_enc p, h36, h43, v44, h45, hvp] at k
  rw [k]
  simp only [Option.bind_some, retPV_pv, retB_bld, fits_bool, toBool_bool, fits_i64, toInt_int, cond_true, Bool.not_true, cond_false, hsm, hsm', hq2, fitsLI, r_zero, r_succ, toLst_lst, List.length_map, lp, lq]
  have hw : IntKind.i64.wrap (((funs p).length : Int) + 1) = (funs p).length + 1 := wrap_i64 (by omega) (by omega)
  rw [hw, show ((((funs p).length + [f].length : Nat) : Int) != ((funs p).length : Int) + 1) = false from by simp, andNotI os ot hle.2]
  cases b with
  | false => rfl
  | true =>
    simp only [Bool.not_true, cond_false]
    cases decide (n > 200) with
    | true => rfl
    | false => exact hL
end Go.AL.S1
