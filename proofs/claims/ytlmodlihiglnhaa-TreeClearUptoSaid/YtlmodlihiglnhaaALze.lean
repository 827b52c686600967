/- From a call's plain computation to the row's contract. -/
import Derived.Test.YtlmodlihiglnhaaALzd
set_option linter.unusedVariables false
set_option linter.unusedSimpArgs false
namespace Go.AL
open Go.RowKit

/-- What is handed in. -/
inductive ArgsFit (P : Program) : List TypeId → List PV → Prop where
  | nil : ArgsFit P [] []
  | cons {t : TypeId} {pvs : List PV} {ts : List TypeId} {ps : List PV} : Fits P t pvs → ArgsFit P ts ps → ArgsFit P (t :: ts) (pvElem P t pvs :: ps)

section
variable {P : Program} {S : List TypeId} {H : Type} {enc : TypeId × Value → H} {W W' : World}

theorem arg_rep (hS : closedT P S = true) {t : TypeId} (ht : t ∈ S) {base : Nat} {v : Value} (hok : Value.okWide P W .any base t v) {pvs : List PV} (hf : Fits P t pvs) (hr : CRel (fun a => W.cell? a) pvs v.cells.toList) : PRep (fun a => W.cell? a) (pvElem P t pvs) v := by
  have hty := closed_of hS ht
  unfold pvElem isStruct
  unfold tyOk at hty
  unfold Value.okWide at hok
  cases hu : P.underlying t with
  | none => rw [hu] at hty; cases hty
  | some d =>
    rw [hu] at hty hok
    have scalar : (∀ cs, v ≠ .agg cs) → isStruct P t = false → PRep (fun a => W.cell? a) (pvs.headD .nilp) v := by
      intro hv hs
      obtain ⟨p, rfl⟩ := hf.agg_len hS ht hs
      have hvc : v.cells.toList = [v] := by cases v <;> first | rfl | exact absurd rfl (hv _)
      rw [hvc] at hr
      exact (hr.2 0 p v rfl rfl).1
    cases d with
    | struct fs =>
      obtain ⟨cs, rfl, _⟩ := hok
      have := hr.agg
      rw [Array.toArray_toList] at this
      exact this
    | bool => exact scalar (by rintro cs rfl; simp [Cell.okWide, Cell.ok, hu] at hok) (by simp [isStruct, hu])
    | int k => exact scalar (by rintro cs rfl; simp [Cell.okWide, Cell.ok, hu] at hok) (by simp [isStruct, hu])
    | string => exact scalar (by rintro cs rfl; simp [Cell.okWide, Cell.ok, hu] at hok) (by simp [isStruct, hu])
    | pointer e => exact scalar (by rintro cs rfl; simp [Cell.okWide, Cell.ok, hu] at hok) (by simp [isStruct, hu])
    | slice e => exact scalar (by rintro cs rfl; simp [Cell.okWide, Cell.ok, hu] at hok) (by simp [isStruct, hu])
    | _ => cases hty

theorem args_of_trod {B : DataW H → Nat} (hB : Bulky B) (hS : closedT P S = true) {base : Nat} : ∀ {ts : List TypeId} {vs : List Value} {ds : List (DataW H)} {p : List MemPlace}, (∀ t, t ∈ ts → t ∈ S) → DataW.TrodAll enc P W 0 (fun _ => true) true ts vs ds p → (∀ (j : Nat) t v, ts[j]? = some t → vs[j]? = some v → Value.okWide P W .any base t v) →
    (∀ n, n ∈ DataW.weightsEach P ts ds → n ≤ reachBytes) → ∃ ps, ArgsFit P ts ps ∧ ps.length = vs.length ∧ (∀ (i : Nat) p v, ps[i]? = some p → vs[i]? = some v → PRep (fun a => W.cell? a) p v) ∧ bkL ps ≤ (ds.map B).sum
  | [], [], [], p, _, _, _, _ => ⟨[], .nil, rfl, by simp, by simp [bkL]⟩
  | t :: ts, v :: vs, d :: ds, p, hts, h, hok, hw => by
    obtain ⟨p1, q1, ⟨fuel, h1⟩, h2, rfl⟩ := h
    have htS := hts t (by simp)
    obtain ⟨pvs, g1, g2, _, g3⟩ := pv_of_trod hB hS fuel htS h1 (fun n hn => hw n (by simp only [DataW.weightsEach, List.mem_append]; exact .inl hn))
    obtain ⟨ps, k1, k2, k3, k4⟩ := args_of_trod hB hS (fun t ht => hts t (by simp [ht])) h2 (fun j t v e1 e2 => hok (j + 1) t v (by simpa using e1) (by simpa using e2)) (fun n hn => hw n (by simp only [DataW.weightsEach, List.mem_append]; exact .inr hn))
    refine ⟨_, .cons g1 k1, by simp [k2], fun i q u e1 e2 => ?_, by simp only [bkL, List.map_cons, List.sum_cons]; omega⟩
    cases i with
    | zero => simp at e1 e2; subst e1; subst e2; exact arg_rep hS htS (hok 0 t v rfl rfl) g1 g2
    | succ i => exact k3 i q u (by simpa using e1) (by simpa using e2)
  | [], _ :: _, _, _, _, h, _, _ => h.elim
  | [], [], _ :: _, _, _, h, _, _ => h.elim
  | _ :: _, [], _, _, _, h, _, _ => h.elim
  | _ :: _, _ :: _, [], _, _, h, _, _ => h.elim

theorem cells?_below (hb : Below W.heap.size W W') {a : Addr} {n : Nat} {cs : List Value} (h : W.cells? 0 a n = some cs) : W'.cells? 0 a n = some cs := by
  unfold World.cells? at h ⊢
  simp only [Nat.zero_le, if_true] at h ⊢
  refine mapM_mono (fun i v _ hv => ?_) h
  exact (World.cell?_of_block (a := a.add i) (hb.block _ (World.block_lt_of_cell? _ _ hv))).trans hv

/-- What was handed in reads as it did. -/
theorem carry (hS : closedT P S = true) (hb : Below W.heap.size W W') : ∀ (fuel : Nat) {t : TypeId} {cs : List Value} {d : DataW H} {ps : List MemPlace}, t ∈ S → DataW.trod enc P W 0 (fun _ => true) true fuel t cs = some (d, ps) → DataW.trod enc P W' 0 (fun b => decide (b < W.heap.size)) true fuel t cs = some (d, ps)
  | 0, t, cs, d, ps, _, h => by simp [DataW.trod] at h
  | fuel + 1, t, cs, d, ps, ht, h => by
    have hty := closed_of hS ht
    unfold tyOk at hty
    have step : ∀ {e : TypeId} {a : Addr} {x : DataW H × List MemPlace}, e ∈ S → (W.cells? 0 a (P.cellsOf e)).bind (DataW.trod enc P W 0 (fun _ => true) true fuel e) = some x → (W'.cells? 0 a (P.cellsOf e)).bind (DataW.trod enc P W' 0 (fun b => decide (b < W.heap.size)) true fuel e) = some x := by
      intro e a x he hx
      replace hx := bind_some hx
      obtain ⟨cs', h1, h2⟩ := hx
      rw [cells?_below hb h1]
      obtain ⟨x1, x2⟩ := x
      exact carry hS hb fuel he h2
    cases hu : P.underlying t with
    | none => rw [hu] at hty; cases hty
    | some dd =>
      rw [hu] at hty
      unfold DataW.trod at h ⊢
      rw [hu] at h ⊢
      cases dd with
      | bool => rcases cs with _ | ⟨v, _ | ⟨v2, l⟩⟩ <;> first | exact h | (cases v <;> exact h)
      | int k => rcases cs with _ | ⟨v, _ | ⟨v2, l⟩⟩ <;> first | exact h | (cases v <;> exact h)
      | string => rcases cs with _ | ⟨v, _ | ⟨v2, l⟩⟩ <;> first | exact h | (cases v <;> exact h)
      | pointer e =>
        simp only [Bool.and_eq_true] at hty
        have heS := mem_iff.1 hty.2
        rcases cs with _ | ⟨v, _ | ⟨v2, l⟩⟩
        · exact h
        · cases v with
          | pointer o =>
            cases o with
            | none => exact h
            | some a =>
              change ((W.cells? 0 a (P.cellsOf e)).bind (DataW.trod enc P W 0 (fun _ => true) true fuel e)).map (fun x => (DataW.ptr x.1, MemPlace.row a (P.cellsOf e) ++ x.2)) = some (d, ps) at h
              show ((W'.cells? 0 a (P.cellsOf e)).bind (DataW.trod enc P W' 0 (fun b => decide (b < W.heap.size)) true fuel e)).map (fun x => (DataW.ptr x.1, MemPlace.row a (P.cellsOf e) ++ x.2)) = some (d, ps)
              cases hx : (W.cells? 0 a (P.cellsOf e)).bind (DataW.trod enc P W 0 (fun _ => true) true fuel e) with
              | none => rw [hx] at h; simp at h
              | some x => rw [hx] at h; rw [step heS hx]; exact h
          | _ => exact h
        · cases v <;> first | exact h | (rename_i o _ _; cases o <;> first | exact h | (rename_i len cap; cases len <;> cases cap <;> exact h)) | (rename_i o; cases o <;> exact h)
      | slice e =>
        simp only [Bool.and_eq_true] at hty
        have heS := mem_iff.1 hty.1.2
        have hpos := blt_lt hty.2
        rcases cs with _ | ⟨v, _ | ⟨v2, l⟩⟩
        · exact h
        · cases v with
          | slice o len cap =>
            cases o with
            | none =>
              cases len with
              | zero => cases cap <;> exact h
              | succ n => exact h
            | some a =>
              change (if 0 ≤ a.block ∧ len ≤ cap ∧ cap ≤ maxLen then ((List.range len).mapM fun i => (W.cells? 0 (a.add (i * P.cellsOf e)) (P.cellsOf e)).bind (DataW.trod enc P W 0 (fun _ => true) true fuel e)).bind fun elems =>
                (if true = true then (List.range (cap - len)).mapM fun j => (W.cells? 0 (a.add ((len + j) * P.cellsOf e)) (P.cellsOf e)).bind (DataW.trod enc P W 0 (fun _ => true) true fuel e) else some []).map fun rest => (DataW.slice (elems.map (·.1)) (rest.map (·.1)), MemPlace.row a ((elems.length + rest.length) * P.cellsOf e) ++ (elems ++ rest).flatMap (·.2)) else none) = some (d, ps) at h
              show (if 0 ≤ a.block ∧ len ≤ cap ∧ cap ≤ maxLen then ((List.range len).mapM fun i => (W'.cells? 0 (a.add (i * P.cellsOf e)) (P.cellsOf e)).bind (DataW.trod enc P W' 0 (fun b => decide (b < W.heap.size)) true fuel e)).bind fun elems =>
                (if decide (a.block < W.heap.size) = true then (List.range (cap - len)).mapM fun j => (W'.cells? 0 (a.add ((len + j) * P.cellsOf e)) (P.cellsOf e)).bind (DataW.trod enc P W' 0 (fun b => decide (b < W.heap.size)) true fuel e) else some []).map fun rest => (DataW.slice (elems.map (·.1)) (rest.map (·.1)), MemPlace.row a ((elems.length + rest.length) * P.cellsOf e) ++ (elems ++ rest).flatMap (·.2)) else none) = some (d, ps)
              split at h
              · rename_i hcnd
                rw [if_pos hcnd]
                simp only [if_true] at h
                replace h := bind_some h
                obtain ⟨elems, hel, h⟩ := h
                have hel' := mapM_mono (g := fun i => (W'.cells? 0 (a.add (i * P.cellsOf e)) (P.cellsOf e)).bind (DataW.trod enc P W' 0 (fun b => decide (b < W.heap.size)) true fuel e)) (fun i x _ hx => step heS hx) hel
                rw [hel']
                simp only [Option.bind_some]
                cases hr : ((List.range (cap - len)).mapM fun j => (W.cells? 0 (a.add ((len + j) * P.cellsOf e)) (P.cellsOf e)).bind (DataW.trod enc P W 0 (fun _ => true) true fuel e)) with
                | none => rw [hr] at h; simp at h
                | some rest =>
                  rw [hr] at h
                  have hr' := mapM_mono (g := fun j => (W'.cells? 0 (a.add ((len + j) * P.cellsOf e)) (P.cellsOf e)).bind (DataW.trod enc P W' 0 (fun b => decide (b < W.heap.size)) true fuel e)) (fun i x _ hx => step heS hx) hr
                  by_cases hlt : a.block < W.heap.size
                  · rw [if_pos (by simpa using hlt), hr']
                    exact h
                  · rw [if_neg (by simpa using hlt)]
                    have hcl : cap - len = 0 := by
                      rcases Nat.eq_zero_or_pos (cap - len) with h0 | h0
                      · exact h0
                      · exfalso
                        obtain ⟨_, g2⟩ := mapM_get hr
                        obtain ⟨x, _, hx⟩ := g2 0 0 (by simp [h0])
                        replace hx := bind_some hx
                        obtain ⟨cs', h1, _⟩ := hx
                        obtain ⟨c1, c2⟩ := cells?_get h1
                        have hlen : 0 < cs'.length := by omega
                        have := World.block_lt_of_cell? _ _ (c2 0 cs'[0] (List.getElem?_eq_getElem hlen))
                        rw [Addr.add_zero'] at this
                        have hb' : ∀ n, (a.add n).block = a.block := fun n => by unfold Addr.add; split <;> rfl
                        rw [hb'] at this
                        exact hlt this
                    rw [hcl] at hr
                    simp at hr
                    subst hr
                    exact h
              · cases h
          | _ => exact h
        · cases v <;> first | exact h | (rename_i o _ _; cases o <;> first | exact h | (rename_i len cap; cases len <;> cases cap <;> exact h)) | (rename_i o; cases o <;> exact h)
      | struct fs =>
        simp only [Bool.and_eq_true] at hty
        have h' : (if cs.length = P.cellsOf t then (fs.toList.mapM fun f => DataW.trod enc P W 0 (fun _ => true) true fuel f.type ((cs.drop f.offset).take (P.cellsOf f.type))).map fun xs => (DataW.agg (xs.map (·.1)), xs.flatMap (·.2)) else none) = some (d, ps) := by
          rcases cs with _ | ⟨v, _ | ⟨v2, l⟩⟩ <;> first | exact h | (cases v <;> exact h)
        suffices hg : (if cs.length = P.cellsOf t then (fs.toList.mapM fun f => DataW.trod enc P W' 0 (fun b => decide (b < W.heap.size)) true fuel f.type ((cs.drop f.offset).take (P.cellsOf f.type))).map fun xs => (DataW.agg (xs.map (·.1)), xs.flatMap (·.2)) else none) = some (d, ps) by
          rcases cs with _ | ⟨v, _ | ⟨v2, l⟩⟩ <;> first | exact hg | (cases v <;> exact hg)
        clear h
        have h := h'
        clear h'
        split at h
        · rename_i hlen
          rw [if_pos hlen]
          cases hx : (fs.toList.mapM fun f => DataW.trod enc P W 0 (fun _ => true) true fuel f.type ((cs.drop f.offset).take (P.cellsOf f.type))) with
          | none => rw [hx] at h; simp at h
          | some xs =>
            rw [hx] at h
            rw [mapM_mono (fun f x hf hx => by
              obtain ⟨x1, x2⟩ := x
              exact carry hS hb fuel (mem_iff.1 (List.all_eq_true.1 hty.2 f hf)) hx) hx]
            exact h
        · cases h
      | _ => cases hty

theorem carryAll (hS : closedT P S = true) (hb : Below W.heap.size W W') : ∀ {ts : List TypeId} {vs : List Value} {ds : List (DataW H)} {p : List MemPlace}, (∀ t, t ∈ ts → t ∈ S) → DataW.TrodAll enc P W 0 (fun _ => true) true ts vs ds p → DataW.TrodAll enc P W' 0 (fun b => decide (b < W.heap.size)) true ts vs ds p
  | [], [], [], p, _, h => h
  | t :: ts, v :: vs, d :: ds, p, hts, h => by
    obtain ⟨p1, q1, ⟨fuel, h1⟩, h2, rfl⟩ := h
    exact ⟨p1, q1, ⟨fuel, carry hS hb fuel (hts t (by simp)) h1⟩, carryAll hS hb (fun t ht => hts t (by simp [ht])) h2, rfl⟩
  | [], _ :: _, _, _, _, h => h.elim
  | [], [], _ :: _, _, _, h => h.elim
  | _ :: _, [], _, _, _, h => h.elim
  | _ :: _, _ :: _, [], _, _, h => h.elim

/-- A law's contract: the plain computation says true, where what is handed in holds no more than so much. -/
theorem law_callsB {B : DataW H → Nat} (hB : Bulky B) {T : Tab} (hs : ∀ n, CallOk P (acall P T n)) (hS : closedT P S = true) {f : FuncId} {ts : List TypeId} (hts : ts.all (mem S) = true) {args : Array Value} {ds : List (DataW H)} {p : List MemPlace} {base : Nat} (hA : DataW.TrodAll enc P W 0 (fun _ => true) true ts args.toList ds p)
    (hok : ∀ (j : Nat) t v, ts[j]? = some t → args[j]? = some v → Value.okWide P W .any base t v) (hw : (DataW.weightsEach P ts ds).all (· ≤ reachBytes) = true) {N : Nat} (hN : (ds.map B).sum ≤ N) (law : ∀ ps, ArgsFit P ts ps → bkL ps ≤ N → ∃ n, acall P T n f (ps.map .pv) = some (.pv (.bool true), [])) :
    Calls P f args W fun e W' => e = .returned (.bool true) ∧ Below W.heap.size W W' ∧ DataW.TrodAll enc P W' 0 (fun b => decide (b < W.heap.size)) true ts args.toList ds p := by
  have htS : ∀ t, t ∈ ts → t ∈ S := fun t ht => mem_iff.1 (List.all_eq_true.1 hts t ht)
  obtain ⟨ps, g1, g2, g3, g4⟩ := args_of_trod hB hS htS hA (fun j t v e1 e2 => hok j t v e1 (by simpa using e2)) (fun n hn => of_decide_eq_true (List.all_eq_true.1 hw n hn))
  obtain ⟨n, hn⟩ := law ps g1 (Nat.le_trans g4 hN)
  obtain ⟨_, hc⟩ := hs n f _ _ hn (plain_pv ps)
  rw [enterT_pv] at hc
  have h0 : SRel (fun _ => False) W (fun a => W.cell? a) (G0 fun a => W.cell? a) ⟨[], [], []⟩ W :=
    ⟨rfl, rfl, rfl, Nat.le_refl _, fun _ _ _ => rfl, fun _ _ e => e, Mem.le_refl _, fun _ _ e => .inl e, fun b hb => absurd rfl hb, fun _ _ _ => .inl rfl, fun i z cs b h1 _ => by simp at h1, fun i v sz xs h1 => by simp at h1, fun i e h1 => by simp at h1⟩
  refine (hc (fun _ => False) _ _ W args h0 ⟨by simpa using g2.symm, fun i a v h1 h2 => ?_⟩).mono ?_
  · rw [List.getElem?_map] at h1
    cases hp : ps[i]? with
    | none => rw [hp] at h1; cases h1
    | some q => rw [hp] at h1; obtain rfl := Option.some.inj h1; exact g3 i q v hp (by simpa using h2)
  · rintro e W' ⟨v, G', s', rfl, k1, k2⟩
    have hv : v = .bool true := rep_bool k2
    subst hv
    have hb : Below W.heap.size W W' := ⟨k1.os, k1.tape, k1.output, k1.size, fun k hk => k1.old k hk (fun e => e)⟩
    exact ⟨rfl, hb, carryAll hS hb htS hA⟩
/-- A law's contract: the plain computation says true. -/
theorem law_calls {T : Tab} (hs : ∀ n, CallOk P (acall P T n)) (hS : closedT P S = true) {f : FuncId} {ts : List TypeId} (hts : ts.all (mem S) = true) {args : Array Value} {ds : List (DataW H)} {p : List MemPlace} {base : Nat} (hA : DataW.TrodAll enc P W 0 (fun _ => true) true ts args.toList ds p)
    (hok : ∀ (j : Nat) t v, ts[j]? = some t → args[j]? = some v → Value.okWide P W .any base t v) (hw : (DataW.weightsEach P ts ds).all (· ≤ reachBytes) = true) (law : ∀ ps, ArgsFit P ts ps → ∃ n, acall P T n f (ps.map .pv) = some (.pv (.bool true), [])) :
    Calls P f args W fun e W' => e = .returned (.bool true) ∧ Below W.heap.size W W' ∧ DataW.TrodAll enc P W' 0 (fun b => decide (b < W.heap.size)) true ts args.toList ds p :=
  law_callsB bulky_one hs hS hts hA hok hw (Nat.le_refl _) fun ps h _ => law ps h
end
end Go.AL
