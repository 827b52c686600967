/- The judge of a program that is one actor. -/
import Derived.Test.YtlmodlihiglnhaaDoorS9Judge
set_option linter.unusedVariables false
set_option linter.unusedSimpArgs false
set_option maxRecDepth 20000
namespace Go.AL.S9
open Go Go.AL

def IR (Q : Prop) (o : Option Out) : Prop := ∃ v : Int, o = some (.pv (.int .i64 v), []) ∧ (v = 0 → Q)
section
variable {Q R : Prop}
theorem IR.ret {v : Int} (h : v = 0 → Q) : IR Q (some (.pv (.int .i64 v), [])) := ⟨v, rfl, h⟩
theorem IR.bif {c : Bool} {a b : Option Out} (ha : c = true → IR Q a) (hb : c = false → IR Q b) : IR Q (bif c then a else b) := by
  cases c with
  | true => exact ha rfl
  | false => exact hb rfl
theorem IR.call {o : Option Out} {K : Out → Option Out} (h : JR R o) (k : ∀ j : Int, (j = 0 → R) → IR Q (K (.pv (.tup []), [.box [.int .i64 j]]))) :
    IR Q (o.bind fun r => bif refFits [(1, some (Sh.agg [Sh.int .i64]))] [] r.2 then (retPV (r.1, [])).bind fun r1 => bif (Sh.tup []).fits r1 then K r else none else none) := by
  obtain ⟨j, rfl, hj⟩ := h
  exact k j hj
theorem IR.ofB {o : Option Out} {f : PV → Option Out} (h : isB o) (k : ∀ b, IR Q (f (.bool b))) : IR Q ((o.bind retPV).bind f) := by
  obtain ⟨b, rfl⟩ := h; exact k b
theorem IR.of {o : Option Out} (h : IR R o) (k : R → Q) : IR Q o := by
  obtain ⟨j, e, hj⟩ := h
  exact ⟨j, e, fun e => k (hj e)⟩
end
def acE (B : Ex) : PV := .agg [.str [88], .lst [], .lst [], .int .i64 1, .str [], .lst [], .int .i64 B.kind, .int .i64 B.num, .str B.text, .lst (B.names.map .str), .lst B.types, .lst (B.args.map Ex.enc), .lst (B.arms.map eArm), .int .i64 B.at_]
def pgE (B : Ex) : PV := .agg [.str [120], .int .i64 0, .lst [], .lst [], .lst [], .lst [], .lst [], .lst [acE B]]
theorem ac_fits (B : Ex) : (Sh.agg [Sh.str, Sh.lst, Sh.lst, Sh.int .i64, Sh.str, Sh.lst, Sh.int .i64, Sh.int .i64, Sh.str, Sh.lst, Sh.lst, Sh.lst, Sh.lst, Sh.int .i64]).fits (acE B) = true := nrfl rfl
theorem right {B : Ex} (hB : Okx B) (hb : bk B.enc ≤ BIG) : IR (Rt B) (V 23 [.pv (pgE B)]) := by
  have hint : Ty.enc (.mk 1 [] []) = .agg [.int .i64 1, .str [], .lst []] := rfl
  have s1 : ∀ v : Int, IR (v = 0 ∧ Rt B) (L23_11111111101451104116 [acE B] 0 [120] 0 [] [] [] [] [] v [88] [] [] 1 [] [] B.kind B.num B.text (B.names.map .str) B.types (B.args.map Ex.enc) (B.arms.map eArm) B.at_) := fun v => by
    rw [e23_11111111101451104116]
    refine .call (v57 (xs := []) (by decide) _) fun j1 h1 => ?_
    simp only [jb]
    refine .call (v59 (args := []) (by decide) (fun t h => by cases h) _) fun j2 h2 => ?_
    simp only [jb]
    refine .call (v59 (args := [.mk 1 [] []]) (by decide) (fun t h => by
      obtain rfl := List.mem_singleton.1 h
      exact .mk (by decide) (by decide) (fun t h => by cases h)) _) fun j3 h3 => ?_
    simp only [jb]
    have hv := fun j => v61 hB hb j true
    rw [ex_enc] at hv
    refine .call (hv _) fun j4 h4 => ?_
    simp only [jb]
    rw [e23_111111111014]
    exact .ret fun e1 => ⟨h1 (h2 (h3 (h4 e1).1)), (h4 e1).2⟩
  have s2 : ∀ v : Int, IR (v = 0 ∧ Rt B) (L23_111111111014 [acE B] 0 [120] 0 [] [] [] [] [] v) := fun v => by
    rw [e23_111111111014]
    have h0 : ([acE B] : List PV)[(0 : Int).toNat]? = some (acE B) := rfl
    rw [h0, show decide ((0 : Int) < (([acE B] : List PV).length : Int)) = true from rfl, show decide ((0 : Int) ≤ 0) = true from rfl]
    simp only [cond_true, Option.bind_some, ac_fits]
    refine .ofB (t58 _) fun b => ?_
    simp only [fits_bool, toBool_bool, cond_true]
    refine .bif (fun _ => ?_) fun _ => ?_
    · refine .call (v53 _ _) fun j1 h1 => ?_
      simp only [jb]
      exact (s1 j1).of fun ⟨e1, g⟩ => ⟨(h1 e1).1, g⟩
    · refine .call (v53 _ _) fun j1 h1 => ?_
      simp only [jb]
      exact (s1 j1).of fun ⟨e1, g⟩ => ⟨(h1 e1).1, g⟩
  have s3 : ∀ v : Int, IR (v = 0 ∧ Rt B) (L23_11116 [120] 0 [] [] [] [] [] [acE B] v) := fun v => by
    have : L23_11116 [120] 0 [] [] [] [] [] [acE B] v = L23_111111111014 [acE B] 0 [120] 0 [] [] [] [] [] v := by
      rw [e23_11116, e23_1111014]
      show L23_11111014 [] 0 [120] 0 [] [] [] [] [acE B] v = _
      rw [e23_11111014]
      show L23_111111014 [] 0 [120] 0 [] [] [] [] [acE B] v = _
      rw [e23_111111014]
      show L23_1111111014 [] 0 [120] 0 [] [] [] [] [acE B] v = _
      rw [e23_1111111014]
      show L23_11111111014 [] 0 [120] 0 [] [] [] [] [acE B] v = _
      rw [e23_11111111014]
      rfl
    rw [this]; exact s2 v
  have s4 : ∀ v : Int, IR (v = 0 ∧ Rt B) (L23_11014 [] [] [] [] [] [acE B] 6 [120] 0 v) := fun v => by
    rw [e23_11014]
    show IR _ (((V 54 [.pv (.str [120])]).bind retPV).bind _)
    refine .ofB (t54 _) fun b => ?_
    simp only [fits_bool, toBool_bool, cond_true]
    refine .bif (fun _ => ?_) fun _ => ?_
    · obtain ⟨b, g, _⟩ := v55 0
      rw [g]
      simp only [Option.bind_some, retPV_pv, fits_bool, toBool_bool, cond_true]
      refine .call (v53 _ _) fun j1 h1 => ?_
      simp only [jb]
      exact (s3 j1).of fun ⟨e1, g⟩ => ⟨(h1 e1).1, g⟩
    · refine .call (v53 _ _) fun j1 h1 => ?_
      simp only [jb]
      exact (s3 j1).of fun ⟨e1, g⟩ => ⟨(h1 e1).1, g⟩
  have round : ∀ (i : Nat), i < 6 → (∀ v : Int, IR (v = 0 ∧ Rt B) (L23_11014 [] [] [] [] [] [acE B] ((i + 1 : Nat) : Int) [120] 0 v)) → ∀ v : Int, IR (v = 0 ∧ Rt B) (L23_11014 [] [] [] [] [] [acE B] (i : Int) [120] 0 v) := fun i hi hn v => by
    rw [e23_11014, decide_eq_true (show (i : Int) < 6 by omega), decide_eq_true (show (0 : Int) ≤ (i : Int) by omega), Int.toNat_natCast]
    simp only [cond_true]
    have hw : IntKind.i64.wrap ((i : Int) + 1) = ((i + 1 : Nat) : Int) := by rw [wrap_i64 (by omega) (by omega)]; omega
    obtain ⟨n, hn'⟩ : ∃ n : Int, ([.int .i64 ((([] : List PV).length : Nat) : Int), .int .i64 ((([] : List PV).length : Nat) : Int), .int .i64 ((([] : List PV).length : Nat) : Int), .int .i64 ((([] : List PV).length : Nat) : Int), .int .i64 ((([] : List PV).length : Nat) : Int), .int .i64 ((([acE B] : List PV).length : Nat) : Int)] : List PV)[i]? = some (.int .i64 n) := by
      obtain rfl | rfl | rfl | rfl | rfl | rfl : i = 0 ∨ i = 1 ∨ i = 2 ∨ i = 3 ∨ i = 4 ∨ i = 5 := by omega
      all_goals exact ⟨_, rfl⟩
    rw [hn']
    simp only [Option.bind_some, fits_i64, toInt_int, cond_true, hw]
    refine .call (v52 _ _) fun j1 h1 => ?_
    simp only [jb]
    exact (hn j1).of fun ⟨e1, g⟩ => ⟨(h1 e1).1, g⟩
  have s0 := round 0 (by omega) (round 1 (by omega) (round 2 (by omega) (round 3 (by omega) (round 4 (by omega) (round 5 (by omega) s4)))))
  unfold pgE
  rw [e23]
  exact (s0 0).of fun h => h.2
end Go.AL.S9
