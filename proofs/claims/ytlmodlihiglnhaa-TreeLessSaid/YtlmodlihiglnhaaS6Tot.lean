/- The checks of a program come to an end: names and types. -/
import Derived.Test.YtlmodlihiglnhaaS6Ty
set_option linter.unusedVariables false
set_option linter.unusedSimpArgs false
namespace Go.AL.S6
open Go Go.AL

def isB (o : Option Out) : Prop := ∃ b, o = some (.pv (.bool b), [])
def isI (o : Option Out) : Prop := ∃ n, o = some (.pv (.int .i64 n), [])
theorem isI.mk (n : Int) : isI (some (.pv (.int .i64 n), [])) := ⟨n, rfl⟩
theorem isB.mk (b : Bool) : isB (some (.pv (.bool b), [])) := ⟨b, rfl⟩
theorem isI.bif {c : Bool} {a b : Option Out} (h : isI a) (k : isI b) : isI (bif c then a else b) := by cases c <;> assumption
theorem isB.bif {c : Bool} {a b : Option Out} (h : isB a) (k : isB b) : isB (bif c then a else b) := by cases c <;> assumption
theorem isI.ofB {o : Option Out} {f : PV → Option Out} (h : isB o) (k : ∀ b, isI (f (.bool b))) : isI ((o.bind retPV).bind f) := by
  obtain ⟨b, rfl⟩ := h; exact k b
theorem isB.ofB {o : Option Out} {f : PV → Option Out} (h : isB o) (k : ∀ b, isB (f (.bool b))) : isB ((o.bind retPV).bind f) := by
  obtain ⟨b, rfl⟩ := h; exact k b
theorem isI.ofI {o : Option Out} {f : PV → Option Out} (h : isI o) (k : ∀ n, isI (f (.int .i64 n))) : isI ((o.bind retPV).bind f) := by
  obtain ⟨b, rfl⟩ := h; exact k b
theorem fits_u8 (n : Int) : (Sh.int .u8).fits (.int .u8 n) = true := nrfl rfl
theorem toInt_u8 (n : Int) : (PV.int .u8 n).toInt = n := nrfl rfl
theorem str_fits (s : Str) : Sh.str.fits (.str s) = true := nrfl rfl
theorem str_str (s : Str) : (PV.str s).toStr = s := nrfl rfl
theorem mem_drop {α : Type} {xs : List α} {k : Nat} {y : α} {l : List α} (h : xs.drop k = y :: l) : y ∈ xs := List.mem_of_mem_drop (by rw [h]; simp)

/-! #### Names -/
theorem t103 (c : Int) : isB (V 103 [.pv (.int .u8 c)]) := by rw [e103]; exact .bif (.mk _) (.mk _)
theorem t131 (c : Int) : isB (V 131 [.pv (.int .u8 c)]) := by rw [e131]; exact .bif (.mk _) (.mk _)
theorem t141 (c : Int) : isB (V 141 [.pv (.int .u8 c)]) := by rw [e141]; exact .bif (.mk _) (.mk _)
theorem t129 (c : Int) : isB (V 129 [.pv (.int .u8 c)]) := by
  rw [e129]
  refine .ofB (t103 c) fun b => ?_
  simp only [fits_bool, toBool_bool, cond_true]
  refine .bif (.mk _) (.ofB (t131 c) fun b => ?_)
  simp only [fits_bool, toBool_bool, cond_true]
  refine .bif (.mk _) (.ofB (t141 c) fun b => ?_)
  simp only [fits_bool, toBool_bool, cond_true]
  exact .bif (.mk _) (.mk _)
theorem l102 {s : Str} (hs : s.length ≤ maxLen) : ∀ (l : List UInt8) (k : Nat), s.drop k = l → isB (L102_11014 s k)
  | [], k, h => by
    rw [e102_11014, endK_map h]
    exact .mk _
  | x :: l, k, h => by
    have A := atK_map (f := fun c : UInt8 => PV.int .u8 c.toNat) h hs
    have A' := atK h hs
    have ih := l102 hs l (k + 1) A'.drop
    rw [e102_11014]
    simp only [A.lt, A.ge, A.get, A.next, cond_true, Option.bind_some, fits_u8, toInt_u8]
    refine .ofB (t129 _) fun b => ?_
    simp only [fits_bool, toBool_bool, cond_true]
    exact .bif (.mk _) ih
theorem t102 {g : FuncId} (hg : ∀ c : Int, isB (V g [.pv (.int .u8 c)])) (s : Str) : isB (V 102 [.pv (.str s), .pv (.fn g [])]) := by
  rw [e102]
  by_cases h1 : s.length < 1
  · rw [decide_eq_true (by omega)]; exact .mk _
  · by_cases h2 : s.length > 16
    · rw [decide_eq_false (by omega), decide_eq_true (by omega)]; exact .mk _
    · rw [decide_eq_false (by omega), decide_eq_false (by omega)]
      simp only [cond_false]
      cases s with
      | nil => simp at h1
      | cons c s =>
        simp only [show (c :: s)[(0 : Int).toNat]? = some c from rfl, Option.bind_some, List.append_nil, List.map_cons, List.map_nil]
        refine .ofB (hg _) fun b => ?_
        simp only [fits_bool, toBool_bool, cond_true]
        rw [decide_eq_true (show (c :: s).length ≤ 2147483648 by omega)]
        exact .bif (.mk _) (l102 (by simp [maxLen] at *; omega) _ 0 rfl)
theorem l104 {s : Str} {v : List Str} (hv : v.length ≤ maxLen) : ∀ (l : List Str) (k : Nat), v.drop k = l → isB (L104_1014 s (v.map .str) k)
  | [], k, h => by rw [e104_1014, endK_map h]; exact .mk _
  | x :: l, k, h => by
    have A := atK_map (f := PV.str) h hv
    have A' := atK h hv
    have ih := l104 (s := s) hv l (k + 1) A'.drop
    rw [e104_1014]
    simp only [A.lt, A.ge, A.get, A.next, cond_true, Option.bind_some, str_fits, str_str]
    exact .bif (.mk _) ih
def isStr (p : PV) : Bool := match p with | .str _ => true | _ => false
theorem strs_all : ∀ {xs : List PV}, xs.all isStr = true → xs = (xs.map PV.toStr).map .str
  | [], _ => rfl
  | p :: xs, h => by
    simp only [List.all_cons, Bool.and_eq_true] at h
    have := strs_all h.2
    cases p with
    | str s => simp only [List.map_cons]; rw [← this]; rfl
    | _ => simp [isStr] at h
theorem v130 : ∃ w : List Str, V 130 [] = some (.pv (.lst (w.map .str)), []) ∧ w.length ≤ maxLen := by
  obtain ⟨xs, h1, h2, h3⟩ : ∃ xs : List PV, V 130 [] = some (.pv (.lst xs), []) ∧ xs.all isStr = true ∧ xs.length = 38 := ⟨_, e130, rfl, rfl⟩
  refine ⟨xs.map PV.toStr, by rw [← strs_all h2]; exact h1, by rw [List.length_map, h3]; simp [maxLen]⟩
theorem t104 (s : Str) : isB (V 104 [.pv (.str s)]) := by
  obtain ⟨w, h1, h2⟩ := v130
  rw [e104, h1]
  exact l104 h2 w 0 rfl
theorem t65 (s : Str) : isB (V 65 [.pv (.str s)]) := by
  rw [e65]
  refine .ofB (t102 t103 s) fun b => ?_
  simp only [fits_bool, toBool_bool, cond_true]
  refine .bif (.ofB (t104 s) fun b => ?_) (.mk _)
  simp only [fits_bool, toBool_bool, cond_true]
  exact .mk _
theorem t105 (s : Str) : isB (V 105 [.pv (.str s)]) := by
  rw [e105]
  refine .ofB (t102 t131 s) fun b => ?_
  simp only [fits_bool, toBool_bool, cond_true]
  exact .mk _
theorem l106 {v : List Str} (hv : v.length ≤ maxLen) : ∀ (l : List Str) (k : Nat), v.drop k = l → isI (L106_11014 (v.map .str) k)
  | [], k, h => by rw [e106_11014, endK_map h]; exact .mk _
  | x :: l, k, h => by
    have A := atK_map (f := PV.str) h hv
    have A' := atK h hv
    have ih := l106 hv l (k + 1) A'.drop
    rw [e106_11014]
    simp only [A.lt, A.ge, A.get, A.next, cond_true, Option.bind_some, str_fits, str_str]
    refine .ofB (t65 _) fun b => ?_
    simp only [fits_bool, toBool_bool, cond_true]
    exact .bif (.mk _) ih
theorem t106 {v : List Str} (hv : v.length ≤ maxLen) : isI (V 106 [.pv (.lst (v.map .str))]) := by
  rw [e106]
  exact .bif (.mk _) (l106 hv v 0 rfl)

/-! #### Types -/
def okT (t : Ty) : Prop := ∀ deep : Int, isI (V 132 [.pv t.enc, .pv (.int .i64 deep)])
theorem l107 {args : List Ty} (hl : args.length ≤ maxLen) (hs : ∀ t, t ∈ args → okT t) (deep : Int) : ∀ (l : List Ty) (k : Nat), args.drop k = l → isI (L107_1014 deep (args.map Ty.enc) k)
  | [], k, h => by rw [e107_1014, endK_map h]; exact .mk _
  | x :: l, k, h => by
    have A := atK_map (f := Ty.enc) h hl
    have A' := atK h hl
    have ih := l107 hl hs deep l (k + 1) A'.drop
    rw [e107_1014]
    simp only [A.lt, A.ge, A.get, A.next, cond_true, Option.bind_some]
    simp only [ty_fits, ty_k, ty_n, ty_a, ty_eta, cond_true]
    refine .ofI (hs x (mem_drop h) deep) fun n => ?_
    simp only [fits_i64, toInt_int, cond_true]
    exact .bif (.mk _) ih
theorem t107_of {args : List Ty} (hl : args.length ≤ maxLen) (hs : ∀ t, t ∈ args → okT t) (deep : Int) : isI (V 107 [.pv (.lst (args.map Ty.enc)), .pv (.int .i64 deep)]) := by
  rw [e107]; exact l107 hl hs deep args 0 rfl
theorem t132 {t : Ty} : Okt t → okT t := by
  refine Ty.ind (Q := fun t => Okt t → okT t) (fun k nm args ih ht => ?_) t
  intro deep
  have h0 : ∀ d, isI (L132_11111116 d k nm (args.map Ty.enc)) := fun d => by
    rw [e132_11111116]
    refine .ofI (t107_of ht.len (fun t h => ih t h (ht.sub t h)) _) fun n => ?_
    simp only [fits_i64, toInt_int, cond_true]
    exact .mk _
  have h1 : ∀ d i1 i b, isI (L132_111116 d i1 i b k nm (args.map Ty.enc)) := fun d i1 i b => by
    rw [e132_111116]
    repeat' (first | exact .mk _ | exact h0 _ | refine .bif ?_ ?_)
  have h2 : ∀ d b, isI (L132_111101416 d k b nm (args.map Ty.enc)) := fun d b => by
    rw [e132_111101416]
    repeat' (first | exact .mk _ | exact h1 _ _ _ _ | refine .bif ?_ ?_ | (refine .ofB (t65 _) fun b => ?_; simp only [fits_bool, toBool_bool, cond_true]) | (refine .ofB (t105 _) fun b => ?_; simp only [fits_bool, toBool_bool, cond_true]))
  rw [enc_mk, e132]
  repeat' (first | exact .mk _ | exact h2 _ _ | refine .bif ?_ ?_)
theorem t107 {args : List Ty} (hl : args.length ≤ maxLen) (ho : ∀ t, t ∈ args → Okt t) (deep : Int) : isI (V 107 [.pv (.lst (args.map Ty.enc)), .pv (.int .i64 deep)]) := t107_of hl (fun t h => t132 (ho t h)) deep
end Go.AL.S6
