/- The checks of a program come to an end: declarations. -/
import Derived.Test.YtlmodlihiglnhaaS6Tot3
set_option linter.unusedVariables false
set_option linter.unusedSimpArgs false
set_option maxRecDepth 100000
namespace Go.AL.S6
open Go Go.AL

/-! #### Against an empty expression -/
theorem t40z (l : List PV) : isB (V 40 [.pv (.lst l), .pv (.lst [])]) := by
  rw [e40]
  cases l with
  | nil => rw [e40_11014]; exact .mk _
  | cons x l => rw [show ((((x :: l).length : Nat) : Int) != ((([] : List PV).length : Nat) : Int)) = true from by simp; omega]; exact .mk _
theorem t45z (l : List PV) : isB (V 45 [.pv (.lst l), .pv (.lst []), .pv (.fn 21 [])]) := by
  rw [e45]
  cases l with
  | nil => rw [e45_11014]; exact .mk _
  | cons x l => rw [show ((((x :: l).length : Nat) : Int) != ((([] : List PV).length : Nat) : Int)) = true from by simp; omega]; exact .mk _
theorem t46z (l : List PV) : isB (V 46 [.pv (.lst l), .pv (.lst []), .pv (.fn 16 [])]) := by
  rw [e46]
  cases l with
  | nil => rw [e46_11014]; exact .mk _
  | cons x l => rw [show ((((x :: l).length : Nat) : Int) != ((([] : List PV).length : Nat) : Int)) = true from by simp; omega]; exact .mk _
theorem t47z (l : List PV) : isB (V 47 [.pv (.lst l), .pv (.lst []), .pv (.fn 48 [])]) := by
  rw [e47]
  cases l with
  | nil => rw [e47_11014]; exact .mk _
  | cons x l => rw [show ((((x :: l).length : Nat) : Int) != ((([] : List PV).length : Nat) : Int)) = true from by simp; omega]; exact .mk _
theorem t16z (k n : Int) (tx : Str) (ns tys args arms : List PV) (w : Int) : isB (V 16 [.pv (.agg [.int .i64 k, .int .i64 n, .str tx, .lst ns, .lst tys, .lst args, .lst arms, .int .i64 w]), .pv (.agg [.int .i64 0, .int .i64 0, .str [], .lst [], .lst [], .lst [], .lst [], .int .i64 0])]) := by
  rw [e16]
  repeat' (first | exact .mk _ | refine .bif ?_ ?_ | (refine .ofB (t40z _) fun b => ?_; simp only [fits_bool, toBool_bool, cond_true]) | (refine .ofB (t45z _) fun b => ?_; simp only [fits_bool, toBool_bool, cond_true]) | (refine .ofB (t46z _) fun b => ?_; simp only [fits_bool, toBool_bool, cond_true]) | (refine .ofB (t47z _) fun b => ?_; simp only [fits_bool, toBool_bool, cond_true]))

/-! #### Functions -/
theorem head3 (l : List Ty) : headOk 3 (l.map Ty.enc) = true := by
  cases l with
  | nil => rfl
  | cons t l => cases t; rfl
theorem OkTs.small {l : List PV} (h : OkTs l) : headOk 3 l = true ∧ small 0 (l.length) 48 = true ∧ small (l.length) 1 48 = true := by
  obtain ⟨ts, rfl, hb, hl, ho⟩ := h
  have hr : reachBytes = 140737488351232 := rfl
  exact ⟨head3 ts, small_of (by simp only [List.length_map]; omega), small_of (by simp only [List.length_map]; omega)⟩
theorem t107s {l : List PV} (h : OkTs l) {t : Ty} (ht : Okt t) (deep : Int) : isI (V 107 [.pv (.lst (l ++ ([.agg [.int .i64 t.kind, .str t.name, .lst (t.args.map Ty.enc)]] : List PV))), .pv (.int .i64 deep)]) := by
  obtain ⟨ts, rfl, hb, hl, ho⟩ := h
  have hr : reachBytes = 140737488351232 := rfl
  rw [ty_eta, show ts.map Ty.enc ++ [t.enc] = (ts ++ [t]).map Ty.enc by simp]
  refine t107 (by simp [maxLen]; omega) (fun u hu => ?_) deep
  rcases List.mem_append.1 hu with hu | hu
  · exact ho u hu
  · rw [List.mem_singleton.1 hu]; exact ht
structure Fn where
  name : Str
  params : List Str
  names : List Str
  types : List PV
  out : Ty
  body : Ex
def Fn.enc (f : Fn) : PV := .agg [.str f.name, .lst (f.params.map .str), .lst (f.names.map .str), .lst f.types, .int .i64 f.out.kind, .str f.out.name, .lst (f.out.args.map Ty.enc), .int .i64 f.body.kind, .int .i64 f.body.num, .str f.body.text, .lst (f.body.names.map .str), .lst f.body.types, .lst (f.body.args.map Ex.enc), .lst (f.body.arms.map eArm), .int .i64 f.body.at_]
structure OkF (f : Fn) : Prop where
  params : f.params.length ≤ maxLen
  names : f.names.length ≤ maxLen
  types : OkTs f.types
  out : Okt f.out
  body : Okx f.body
theorem t68 {f : Fn} (hf : OkF f) (b : Bool) : isI (V 68 [.pv f.enc, .pv (.bool b)]) := by
  have hs := hf.types.small
  have h2 : isI (L68_11014 b (f.params.map .str) (f.names.map .str) 2 f.name f.types f.out.kind f.out.name (f.out.args.map Ty.enc) f.body.kind f.body.num f.body.text (f.body.names.map .str) f.body.types (f.body.args.map Ex.enc) (f.body.arms.map eArm) f.body.at_) := by
    rw [e68_11014]
    rw [show decide ((2 : Int) < 2) = false from rfl]
    simp only [cond_false, hs.1, hs.2.1, hs.2.2, cond_true]
    refine .ofI (t107s hf.types hf.out _) fun n => ?_
    simp only [fits_i64, toInt_int, cond_true]
    refine .bif (.mk _) (.bif (.ofB (t16z _ _ _ _ _ _ _ _) fun c => ?_) ?_)
    · simp only [fits_bool, toBool_bool, cond_true]
      exact .bif (.mk _) (.mk _)
    · rw [← ex_enc]
      refine .ofI (t109 hf.body _) fun n => ?_
      simp only [fits_i64, toInt_int, cond_true]
      exact .mk _
  have h1 : isI (L68_11014 b (f.params.map .str) (f.names.map .str) 1 f.name f.types f.out.kind f.out.name (f.out.args.map Ty.enc) f.body.kind f.body.num f.body.text (f.body.names.map .str) f.body.types (f.body.args.map Ex.enc) (f.body.arms.map eArm) f.body.at_) := by
    rw [e68_11014]
    rw [show decide ((1 : Int) < 2) = true from rfl, show decide ((0 : Int) ≤ 1) = true from rfl, show ([.lst (f.params.map .str), .lst (f.names.map .str)] : List PV)[(1 : Int).toNat]? = some (.lst (f.names.map .str)) from rfl]
    simp only [cond_true, Option.bind_some]
    rw [show Sh.lst.fits (PV.lst (f.names.map .str)) = true from rfl, show (PV.lst (f.names.map .str)).toLst = f.names.map .str from rfl]
    simp only [cond_true]
    refine .ofI (t106 hf.names) fun n => ?_
    simp only [fits_i64, toInt_int, cond_true]
    exact .bif (.mk _) h2
  have h0 : isI (L68_11014 b (f.params.map .str) (f.names.map .str) 0 f.name f.types f.out.kind f.out.name (f.out.args.map Ty.enc) f.body.kind f.body.num f.body.text (f.body.names.map .str) f.body.types (f.body.args.map Ex.enc) (f.body.arms.map eArm) f.body.at_) := by
    rw [e68_11014]
    rw [show decide ((0 : Int) < 2) = true from rfl, show decide ((0 : Int) ≤ 0) = true from rfl, show ([.lst (f.params.map .str), .lst (f.names.map .str)] : List PV)[(0 : Int).toNat]? = some (.lst (f.params.map .str)) from rfl]
    simp only [cond_true, Option.bind_some]
    rw [show Sh.lst.fits (PV.lst (f.params.map .str)) = true from rfl, show (PV.lst (f.params.map .str)).toLst = f.params.map .str from rfl]
    simp only [cond_true]
    refine .ofI (t106 hf.params) fun n => ?_
    simp only [fits_i64, toInt_int, cond_true]
    exact .bif (.mk _) h1
  rw [Fn.enc, e68]
  refine .ofB (t65 _) fun c => ?_
  simp only [fits_bool, toBool_bool, cond_true]
  exact .bif (.mk _) (.bif (.mk _) h0)
theorem fn_fits (f : Fn) : (Sh.agg [Sh.str, Sh.lst, Sh.lst, Sh.lst, Sh.int .i64, Sh.str, Sh.lst, Sh.int .i64, Sh.int .i64, Sh.str, Sh.lst, Sh.lst, Sh.lst, Sh.lst, Sh.int .i64]).fits f.enc = true := nrfl rfl
theorem fn_eta (f : Fn) : PV.agg [.str (f.enc.c 0).toStr, .lst (f.enc.c 1).toLst, .lst (f.enc.c 2).toLst, .lst (f.enc.c 3).toLst, .int .i64 (f.enc.c 4).toInt, .str (f.enc.c 5).toStr, .lst (f.enc.c 6).toLst, .int .i64 (f.enc.c 7).toInt, .int .i64 (f.enc.c 8).toInt, .str (f.enc.c 9).toStr, .lst (f.enc.c 10).toLst, .lst (f.enc.c 11).toLst, .lst (f.enc.c 12).toLst, .lst (f.enc.c 13).toLst, .int .i64 (f.enc.c 14).toInt] = f.enc := nrfl rfl
theorem l108 {fs : List Fn} (hl : fs.length ≤ maxLen) (hs : ∀ f, f ∈ fs → OkF f) (b : Bool) : ∀ (l : List Fn) (k : Nat), fs.drop k = l → isI (L108_11014 b (fs.map Fn.enc) k)
  | [], k, h => by rw [e108_11014, endK_map h]; exact .mk _
  | x :: l, k, h => by
    have A := atK_map (f := Fn.enc) h hl
    have A' := atK h hl
    have ih := l108 hl hs b l (k + 1) A'.drop
    rw [e108_11014]
    simp only [A.lt, A.ge, A.get, A.next, cond_true, Option.bind_some]
    simp only [fn_fits, fn_eta, cond_true]
    refine .ofI (t68 (hs x (mem_drop h)) b) fun n => ?_
    simp only [fits_i64, toInt_int, cond_true]
    exact .bif (.mk _) ih
theorem t108 {fs : List Fn} (hl : fs.length ≤ maxLen) (hs : ∀ f, f ∈ fs → OkF f) (b : Bool) : isI (V 108 [.pv (.lst (fs.map Fn.enc)), .pv (.bool b)]) := by
  rw [e108]
  exact .bif (.mk _) (l108 hl hs b fs 0 rfl)

/-! #### Actors -/
structure Ac where
  name : Str
  names : List Str
  types : List PV
  msg : Ty
  body : Ex
def Ac.enc (a : Ac) : PV := .agg [.str a.name, .lst (a.names.map .str), .lst a.types, .int .i64 a.msg.kind, .str a.msg.name, .lst (a.msg.args.map Ty.enc), .int .i64 a.body.kind, .int .i64 a.body.num, .str a.body.text, .lst (a.body.names.map .str), .lst a.body.types, .lst (a.body.args.map Ex.enc), .lst (a.body.arms.map eArm), .int .i64 a.body.at_]
structure OkA (a : Ac) : Prop where
  names : a.names.length ≤ maxLen
  types : OkTs a.types
  msg : Okt a.msg
  body : Okx a.body
theorem t69 {a : Ac} (ha : OkA a) : isI (V 69 [.pv a.enc]) := by
  have hs := ha.types.small
  rw [Ac.enc, e69]
  refine .ofB (t105 _) fun c => ?_
  simp only [fits_bool, toBool_bool, cond_true]
  refine .bif (.mk _) (.bif (.mk _) (.ofI (t106 ha.names) fun n => ?_))
  simp only [fits_i64, toInt_int, cond_true, hs.1, hs.2.1, hs.2.2]
  refine .bif (.mk _) (.ofI (t107s ha.types ha.msg _) fun n => ?_)
  simp only [fits_i64, toInt_int, cond_true]
  refine .bif (.mk _) ?_
  rw [← ex_enc]
  refine .ofI (t109 ha.body _) fun n => ?_
  simp only [fits_i64, toInt_int, cond_true]
  exact .mk _

/-! #### Data -/
abbrev Mk := Str × List PV
def eM (m : Mk) : PV := .agg [.str m.1, .lst m.2]
theorem eM_fits (m : Mk) : (Sh.agg [Sh.str, Sh.lst]).fits (eM m) = true := nrfl rfl
theorem eM_0 (m : Mk) : ((eM m).c 0).toStr = m.1 := nrfl rfl
theorem eM_1 (m : Mk) : ((eM m).c 1).toLst = m.2 := nrfl rfl
structure Da where
  name : Str
  params : List Str
  makes : List Mk
def Da.enc (d : Da) : PV := .agg [.str d.name, .lst (d.params.map .str), .lst (d.makes.map eM)]
structure OkD (d : Da) : Prop where
  params : d.params.length ≤ maxLen
  makes : d.makes.length ≤ maxLen
  types : ∀ m, m ∈ d.makes → OkTs m.2
theorem l66 {ms : List Mk} (hl : ms.length ≤ maxLen) (hs : ∀ m, m ∈ ms → OkTs m.2) : ∀ (l : List Mk) (k : Nat), ms.drop k = l → isI (L66_1111014 (ms.map eM) k)
  | [], k, h => by rw [e66_1111014, endK_map h]; exact .mk _
  | x :: l, k, h => by
    have A := atK_map (f := eM) h hl
    have A' := atK h hl
    have ih := l66 hl hs l (k + 1) A'.drop
    rw [e66_1111014]
    simp only [A.lt, A.ge, A.get, A.next, cond_true, Option.bind_some]
    simp only [eM_fits, eM_0, eM_1, cond_true]
    refine .ofB (t105 _) fun c => ?_
    simp only [fits_bool, toBool_bool, cond_true]
    refine .bif (.mk _) (.bif (.mk _) (.ofI (t107' (hs x (mem_drop h)) _) fun n => ?_))
    simp only [fits_i64, toInt_int, cond_true]
    exact .bif (.mk _) ih
theorem t66 {d : Da} (hd : OkD d) : isI (V 66 [.pv d.enc]) := by
  rw [Da.enc, e66]
  refine .ofB (t105 _) fun c => ?_
  simp only [fits_bool, toBool_bool, cond_true]
  refine .bif (.mk _) (.bif (.mk _) (.bif (.mk _) (.bif (.mk _) (.ofI (t106 hd.params) fun n => ?_))))
  simp only [fits_i64, toInt_int, cond_true]
  exact .bif (.mk _) (.bif (.mk _) (l66 hd.makes hd.types d.makes 0 rfl))
end Go.AL.S6
