/- KindMore: one more data behind all makes no type wrong that was right: for every input the law returns true, and what was handed in reads as before. Conditions: those of the given row, and no others. -/
import Derived.Test.YtofjejdlggmcjaaALzi
import Derived.Test.YtofjejdlggmcjaaRows
import Derived.WalkKit
import Derived.ProofKit
import Derived.OpenShut
import Derived.ShutString
import Derived.ChangeOld
import Derived.Below
import Derived.SizedLaws
set_option linter.unusedVariables false
set_option linter.unusedSimpArgs false
namespace Go.AL.KM
open Go Go.AL
def T : Tab where
  heads f b := match f, b with
    | 67, 0 => some ⟨[0, 1, 6, 7, 8], 0, [], []⟩
    | 27, 0 => some ⟨[1, 3, 10, 11, 12], 1, [], []⟩
    | 62, 0 => some ⟨[1, 4, 9, 10, 11], 2, [], []⟩
    | _, _ => none
  kind f d := match f, d with
    | 19, 5 => 1
    | 3, 15 => 1
    | _, _ => 0
  mode _ _ := 0
  keepNil _ := false
  retVec _ := false
  prim f := match f with
    | 19 => some (clonePrim 3 64)
    | _ => none
noncomputable abbrev Pr := Go.Proofs.Try.prog
theorem clone_nn (call) (xs : List PV) : run Go.Proofs.Try.prog (envOf T call) 19 0 [.pv (.nn xs)] = cloneOut 3 64 xs := by kernel_rfl
theorem clone_nil (call) : run Go.Proofs.Try.prog (envOf T call) 19 0 [.pv .nils] = some (.bld 3 [], []) := by kernel_rfl
def st67 (xs : List PV) (s : List UInt8) (i : Int) : AS :=
  ⟨[.pv (.lst xs), .pv (.str s), .any, .any, .any, .any, .pv (.lst xs), .pv (.int .i64 xs.length), .pv (.int .i64 i), .any, .any, .any, .any, .any, .any, .any, .any, .any, .any], ⟨[], [], []⟩⟩
theorem e67 (n : Nat) (xs : List PV) (s : List UInt8) : acall Go.Proofs.Try.prog T (n+1) 67 [.pv (.lst xs), .pv (.str s)] = loopAt Go.Proofs.Try.prog T n 67 [.r, .l, .r, .b] n (st67 xs s 0) := by
  kernel_rfl
theorem s67 (n m : Nat) (xs : List PV) (s : List UInt8) (i : Int) : loopAt Go.Proofs.Try.prog T n 67 [.r, .l, .r, .b] (m+1) (st67 xs s i) =
    bif decide (i < xs.length) then
      (bif decide (0 ≤ i) then (xs[i.toNat]?).bind fun x => bif (Sh.str).fits x then (bif s == x.toStr then some (.pv (.int .i64 i), []) else loopAt Go.Proofs.Try.prog T n 67 [.r, .l, .r, .b] m (st67 xs s (IntKind.i64.wrap (i + 1)))) else none else none)
    else some (.pv (.int .i64 (-1)), []) := by
  kernel_rfl
theorem e55 (n : Nat) (xs : List PV) (s : List UInt8) : acall Go.Proofs.Try.prog T (n+1) 55 [.pv (.lst xs), .pv (.str s)] = ((acall Go.Proofs.Try.prog T n 67 [.pv (.lst xs), .pv (.str s)]).bind retPV).bind fun r => bif (Sh.int .i64).fits r then some (.pv (.bool (decide (r.toInt ≥ 0))), []) else none := by
  kernel_rfl
/-- A program's cells. -/
def pg (nm : List UInt8) (ver : Int) (us ds ts is fs ac : List PV) : PV := .agg [.str nm, .int .i64 ver, .lst us, .lst ds, .lst ts, .lst is, .lst fs, .lst ac]
def av (p : PV) : List AV := p.cells.map .pv
def st62 (nm : List UInt8) (ver : Int) (us ds ts is fs ac : List PV) (name : List UInt8) (i : Int) : AS :=
  ⟨[.any, .pv (.str name), .any, .any, .box 1 0, .any, .any, .any, .any, .pv (.lst ds), .pv (.int .i64 ds.length), .pv (.int .i64 i), .any, .any, .any, .any, .any, .any, .any, .any, .any, .any],
   ⟨[(false, [.pv (.str nm), .pv (.int .i64 ver), .pv (.lst us), .pv (.lst ds), .pv (.lst ts), .pv (.lst is), .pv (.lst fs), .pv (.lst ac)]), (false, [.pv (.str []), .pv .nils, .pv .nils])], [], []⟩⟩
theorem e62 (n : Nat) (nm : List UInt8) (ver : Int) (us ds ts is fs ac : List PV) (name : List UInt8) : acall Go.Proofs.Try.prog T (n+1) 62 [.pv (pg nm ver us ds ts is fs ac), .pv (.str name)] =
    loopAt Go.Proofs.Try.prog T n 62 [.r, .l, .r, .b] n (st62 nm ver us ds ts is fs ac name 0) := by
  kernel_rfl
theorem s62 (n m : Nat) (nm : List UInt8) (ver : Int) (us ds ts is fs ac : List PV) (name : List UInt8) (i : Int) : loopAt Go.Proofs.Try.prog T n 62 [.r, .l, .r, .b] (m+1) (st62 nm ver us ds ts is fs ac name i) =
    bif decide (i < ds.length) then
      (bif decide (0 ≤ i) then (ds[i.toNat]?).bind fun x => bif (Sh.agg [.str, .lst, .lst]).fits x then
         (bif (x.c 0).toStr == name then some (.pv (.tup [.agg [.str (x.c 0).toStr, .lst (x.c 1).toLst, .lst (x.c 2).toLst], .int .i64 0]), [])
          else loopAt Go.Proofs.Try.prog T n 62 [.r, .l, .r, .b] m (st62 nm ver us ds ts is fs ac name (IntKind.i64.wrap (i + 1)))) else none else none)
    else some (.pv (.tup [.agg [.str [], .lst [], .lst []], .int .i64 11]), []) := by
  kernel_rfl
def st27 (nm : List UInt8) (ver : Int) (us ds ts is fs ac ps l : List PV) (i : Int) : AS :=
  ⟨[.any, .pv (.lst ps), .any, .box 0 0, .any, .any, .any, .any, .any, .any, .pv (.lst l), .pv (.int .i64 l.length), .pv (.int .i64 i), .any, .any, .any, .any, .any, .any, .any, .any, .any, .any, .any],
   ⟨[(false, [.pv (.str nm), .pv (.int .i64 ver), .pv (.lst us), .pv (.lst ds), .pv (.lst ts), .pv (.lst is), .pv (.lst fs), .pv (.lst ac)])], [], []⟩⟩
theorem e27 (n : Nat) (nm : List UInt8) (ver : Int) (us ds ts is fs ac ps l : List PV) : acall Go.Proofs.Try.prog T (n+1) 27 [.pv (pg nm ver us ds ts is fs ac), .pv (.lst ps), .pv (.lst l)] =
    loopAt Go.Proofs.Try.prog T n 27 [.r, .l, .r, .b] n (st27 nm ver us ds ts is fs ac ps l 0) := by
  kernel_rfl
theorem s27 (n m : Nat) (nm : List UInt8) (ver : Int) (us ds ts is fs ac ps l : List PV) (i : Int) : loopAt Go.Proofs.Try.prog T n 27 [.r, .l, .r, .b] (m+1) (st27 nm ver us ds ts is fs ac ps l i) =
    bif decide (i < l.length) then
      (bif decide (0 ≤ i) then (l[i.toNat]?).bind fun x => bif (Sh.agg [.int .i64, .str, .lst]).fits x then
         ((acall Go.Proofs.Try.prog T n 20 [.pv (pg nm ver us ds ts is fs ac), .pv (.lst ps), .pv (.agg [.int .i64 (x.c 0).toInt, .str (x.c 1).toStr, .lst (x.c 2).toLst])]).bind retPV).bind fun r => bif (Sh.int .i64).fits r then
           (bif r.toInt != 0 then some (.pv (.int .i64 r.toInt), []) else loopAt Go.Proofs.Try.prog T n 27 [.r, .l, .r, .b] m (st27 nm ver us ds ts is fs ac ps l (IntKind.i64.wrap (i + 1)))) else none else none else none)
    else some (.pv (.int .i64 0), []) := by
  kernel_rfl
noncomputable def rest20 (n : Nat) (nm : List UInt8) (ver : Int) (us ds ts is fs ac ps args : List PV) : Option Out :=
  ((acall Go.Proofs.Try.prog T n 27 [.pv (pg nm ver us ds ts is fs ac), .pv (.lst ps), .pv (.lst args)]).bind retPV).bind fun r => bif (Sh.int .i64).fits r then some (.pv (.int .i64 r.toInt), []) else none
theorem e20 (n : Nat) (nm : List UInt8) (ver : Int) (us ds ts is fs ac ps : List PV) (k : Int) (name : List UInt8) (args : List PV) : acall Go.Proofs.Try.prog T (n+1) 20 [.pv (pg nm ver us ds ts is fs ac), .pv (.lst ps), .pv (.agg [.int .i64 k, .str name, .lst args])] =
    bif k == 5 then
      ((acall Go.Proofs.Try.prog T n 55 [.pv (.lst ps), .pv (.str name)]).bind retPV).bind fun r => bif Sh.bool.fits r then (bif !r.toBool then some (.pv (.int .i64 11), []) else rest20 n nm ver us ds ts is fs ac ps args) else none
    else bif k == 6 then
      ((acall Go.Proofs.Try.prog T n 62 [.pv (pg nm ver us ds ts is fs ac), .pv (.str name)]).bind retPV).bind fun r => bif (Sh.tup [.agg [.str, .lst, .lst], .int .i64]).fits r then
        (bif (r.r 1).toInt != 0 then some (.pv (.int .i64 (r.r 1).toInt), []) else
          bif (((r.r 0).c 1).toLst.length : Int) != (args.length : Int) then some (.pv (.int .i64 13), []) else rest20 n nm ver us ds ts is fs ac ps args) else none
    else rest20 n nm ver us ds ts is fs ac ps args := by
  kernel_rfl
theorem e18 : acall Go.Proofs.Try.prog T 9 18 [] = some (.pv (.bool true), []) := by
  kernel_rfl
theorem e3 (n : Nat) (nm : List UInt8) (ver : Int) (us ds ts is fs ac ps : List PV) (k : Int) (name : List UInt8) (args : List PV) (dn : List UInt8) (dp dm : List PV) :
    acall Go.Proofs.Try.prog T (n+1) 3 [.pv (pg nm ver us ds ts is fs ac), .pv (.agg [.str dn, .lst dp, .lst dm]), .pv (.lst ps), .pv (.agg [.int .i64 k, .str name, .lst args])] =
    ((acall Go.Proofs.Try.prog T n 18 []).bind retPV).bind fun r => bif Sh.bool.fits r then
      (bif !r.toBool then some (.pv (.bool false), []) else
        ((acall Go.Proofs.Try.prog T n 19 [.pv (.lst ds)]).bind fun r => (retB 3 r).bind fun xs =>
          bif small xs.length 1 64 then
            (((acall Go.Proofs.Try.prog T n 20 [.pv (pg nm ver us ds ts is fs ac), .pv (.lst ps), .pv (.agg [.int .i64 k, .str name, .lst args])]).bind retPV).bind fun r => bif (Sh.int .i64).fits r then
              (bif r.toInt != 0 then some (.pv (.bool true), []) else
                (((acall Go.Proofs.Try.prog T n 20 [.pv (pg nm ver us (xs ++ [.agg [.str dn, .lst dp, .lst dm]]) ts is fs ac), .pv (.lst ps), .pv (.agg [.int .i64 k, .str name, .lst args])]).bind retPV).bind fun r => bif (Sh.int .i64).fits r then
                  some (.pv (.bool (r.toInt == 0)), []) else none)) else none) else none)) else none := by
  kernel_rfl

abbrev D3 := List UInt8 × List PV × List PV
def encD (x : D3) : PV := .agg [.str x.1, .lst x.2.1, .lst x.2.2]
def dataR (name : List UInt8) (ds : List D3) : Option Out :=
  match ds.find? (fun x => x.1 == name) with
  | some x => some (.pv (.tup [encD x, .int .i64 0]), [])
  | none => some (.pv (.tup [encD ([], [], []), .int .i64 11]), [])
def B62 (name : List UInt8) (_ : Int) (x : PV) (rest : Option Out) : Option Out :=
  bif (Sh.agg [.str, .lst, .lst]).fits x then
    (bif (x.c 0).toStr == name then some (.pv (.tup [.agg [.str (x.c 0).toStr, .lst (x.c 1).toLst, .lst (x.c 2).toLst], .int .i64 0]), []) else rest) else none
theorem walk62 (name : List UInt8) : ∀ (ds : List D3) (k : Nat), walkL (B62 name) (some (.pv (.tup [.agg [.str [], .lst [], .lst []], .int .i64 11]), [])) (ds.map encD) k = dataR name ds
  | [], k => rfl
  | x :: ds, k => by
    have ih := walk62 name ds (k + 1)
    have h1 : (Sh.agg [.str, .lst, .lst]).fits (encD x) = true := rfl
    have h2 : ((encD x).c 0).toStr = x.1 := rfl
    simp only [List.map_cons, walkL, B62, h1, h2, cond_true, dataR, List.find?_cons]
    cases hb : x.1 == name with
    | true => rfl
    | false =>
      simp only [cond_false]
      exact ih
theorem data_eq {n : Nat} (nm : List UInt8) (ver : Int) (us : List PV) (ds : List D3) (ts is fs ac : List PV) (name : List UInt8) (hl : ds.length ≤ maxLen) (hn : ds.length < n) :
    acall Go.Proofs.Try.prog T (n+1) 62 [.pv (pg nm ver us (ds.map encD) ts is fs ac), .pv (.str name)] = dataR name ds := by
  rw [e62]
  rw [loop_walk0 (L := fun m i => loopAt Go.Proofs.Try.prog T n 62 [.r, .l, .r, .b] m (st62 nm ver us (ds.map encD) ts is fs ac name i)) (xs := ds.map encD) (B := B62 name) (fin := some (.pv (.tup [.agg [.str [], .lst [], .lst []], .int .i64 11]), [])) (by simpa using hl) (fun m i => s62 n m nm ver us (ds.map encD) ts is fs ac name i) (by simpa using hn)]
  exact walk62 name ds 0
/-- A list of names. -/
def B67 (s : List UInt8) (i : Int) (x : PV) (rest : Option Out) : Option Out := bif (Sh.str).fits x then (bif s == x.toStr then some (.pv (.int .i64 i), []) else rest) else none
theorem walk67 (s : List UInt8) : ∀ (xs : List (List UInt8)) (k : Nat), ∃ r, walkL (B67 s) (some (.pv (.int .i64 (-1)), [])) (xs.map .str) k = some (.pv (.int .i64 r), [])
  | [], k => ⟨-1, rfl⟩
  | x :: xs, k => by
    obtain ⟨r, ih⟩ := walk67 s xs (k + 1)
    have h1 : (Sh.str).fits (PV.str x) = true := rfl
    simp only [List.map_cons, walkL, B67, h1, cond_true]
    cases hb : s == (PV.str x).toStr with
    | true => exact ⟨k, rfl⟩
    | false => exact ⟨r, ih⟩
theorem has_eq (xs : List (List UInt8)) (s : List UInt8) (hl : xs.length ≤ maxLen) {n : Nat} (hn : xs.length < n) : ∃ b, acall Go.Proofs.Try.prog T (n+2) 55 [.pv (.lst (xs.map .str)), .pv (.str s)] = some (.pv (.bool b), []) := by
  obtain ⟨r, hr⟩ := walk67 s xs 0
  have h67 : acall Go.Proofs.Try.prog T (n+1) 67 [.pv (.lst (xs.map .str)), .pv (.str s)] = some (.pv (.int .i64 r), []) := by
    rw [e67]
    rw [loop_walk0 (L := fun m i => loopAt Go.Proofs.Try.prog T n 67 [.r, .l, .r, .b] m (st67 (xs.map .str) s i)) (xs := xs.map .str) (B := B67 s) (fin := some (.pv (.int .i64 (-1)), [])) (by simpa using hl) (fun m i => s67 n m (xs.map .str) s i) (by simpa using hn)]
    exact hr
  rw [e55, h67]
  exact ⟨_, rfl⟩
inductive Ty where
  | mk (k : Int) (nm : List UInt8) (args : List Ty)
def Ty.enc : Ty → PV
  | .mk k nm args => .agg [.int .i64 k, .str nm, .lst (encs args)]
where encs : List Ty → List PV
  | [] => []
  | t :: l => t.enc :: encs l
theorem encs_map (l : List Ty) : Ty.enc.encs l = l.map Ty.enc := by
  induction l with
  | nil => rfl
  | cons t l ih => simp [Ty.enc.encs, ih]
inductive Short : Ty → Prop where
  | mk {k : Int} {nm : List UInt8} {args : List Ty} : args.length ≤ maxLen → (∀ t, t ∈ args → Short t) → Short (.mk k nm args)
theorem all_from {α : Type} {Q : α → Nat → Prop} : ∀ (l : List α), (∀ x, x ∈ l → ∃ N, ∀ n, N ≤ n → Q x n) → ∃ N, ∀ n, N ≤ n → ∀ x, x ∈ l → Q x n
  | [], _ => ⟨0, fun _ _ x hx => by cases hx⟩
  | a :: l, h => by
    obtain ⟨N1, h1⟩ := h a (by simp)
    obtain ⟨N2, h2⟩ := all_from l fun x hx => h x (by simp [hx])
    refine ⟨max N1 N2, fun n hn x hx => ?_⟩
    rcases List.mem_cons.1 hx with rfl | hx
    · exact h1 n (by omega)
    · exact h2 n (by omega) x hx
noncomputable abbrev tyAt (nm : List UInt8) (ver : Int) (us : List PV) (ds : List D3) (ts is fs ac : List PV) (ps : List (List UInt8)) (n : Nat) (t : Ty) : Option Out :=
  acall Go.Proofs.Try.prog T n 20 [.pv (pg nm ver us (ds.map encD) ts is fs ac), .pv (.lst (ps.map .str)), .pv t.enc]
/-- It answers, and with one more data it is right where it was. -/
def Both (nm : List UInt8) (ver : Int) (us : List PV) (ds : List D3) (d : D3) (ts is fs ac : List PV) (ps : List (List UInt8)) (n : Nat) (t : Ty) : Prop :=
  ∃ r r', tyAt nm ver us ds ts is fs ac ps n t = some (.pv (.int .i64 r), []) ∧ tyAt nm ver us (ds ++ [d]) ts is fs ac ps n t = some (.pv (.int .i64 r'), []) ∧ (r = 0 → r' = 0)
noncomputable def B27 (nm : List UInt8) (ver : Int) (us ds ts is fs ac ps : List PV) (n : Nat) (_ : Int) (x : PV) (rest : Option Out) : Option Out :=
  bif (Sh.agg [.int .i64, .str, .lst]).fits x then
    ((acall Go.Proofs.Try.prog T n 20 [.pv (pg nm ver us ds ts is fs ac), .pv (.lst ps), .pv (.agg [.int .i64 (x.c 0).toInt, .str (x.c 1).toStr, .lst (x.c 2).toLst])]).bind retPV).bind fun r => bif (Sh.int .i64).fits r then
      (bif r.toInt != 0 then some (.pv (.int .i64 r.toInt), []) else rest) else none else none
theorem B27_at (nm : List UInt8) (ver : Int) (us : List PV) (ds : List D3) (ts is fs ac : List PV) (ps : List (List UInt8)) (n : Nat) (i : Int) (t : Ty) (rest : Option Out) {r : Int} (h : tyAt nm ver us ds ts is fs ac ps n t = some (.pv (.int .i64 r), [])) :
    B27 nm ver us (ds.map encD) ts is fs ac (ps.map .str) n i t.enc rest = bif r != 0 then some (.pv (.int .i64 r), []) else rest := by
  obtain ⟨k, name, args⟩ := t
  have h1 : (Sh.agg [.int .i64, .str, .lst]).fits (Ty.mk k name args).enc = true := rfl
  unfold B27
  rw [h1]
  simp only [cond_true]
  have h2 : acall Go.Proofs.Try.prog T n 20 [.pv (pg nm ver us (ds.map encD) ts is fs ac), .pv (.lst (ps.map .str)), .pv (.agg [.int .i64 ((Ty.mk k name args).enc.c 0).toInt, .str ((Ty.mk k name args).enc.c 1).toStr, .lst ((Ty.mk k name args).enc.c 2).toLst])] = some (.pv (.int .i64 r), []) := h
  rw [h2]
  rfl
theorem walk27 (nm : List UInt8) (ver : Int) (us : List PV) (ds : List D3) (d : D3) (ts is fs ac : List PV) (ps : List (List UInt8)) (n : Nat) : ∀ (l : List Ty) (k : Nat), (∀ t, t ∈ l → Both nm ver us ds d ts is fs ac ps n t) →
    ∃ r r', walkL (B27 nm ver us (ds.map encD) ts is fs ac (ps.map .str) n) (some (.pv (.int .i64 0), [])) (l.map Ty.enc) k = some (.pv (.int .i64 r), []) ∧
      walkL (B27 nm ver us ((ds ++ [d]).map encD) ts is fs ac (ps.map .str) n) (some (.pv (.int .i64 0), [])) (l.map Ty.enc) k = some (.pv (.int .i64 r'), []) ∧ (r = 0 → r' = 0)
  | [], k, _ => ⟨0, 0, rfl, rfl, fun h => h⟩
  | t :: l, k, h => by
    obtain ⟨r, r', h1, h2, h3⟩ := h t (by simp)
    obtain ⟨q, q', g1, g2, g3⟩ := walk27 nm ver us ds d ts is fs ac ps n l (k + 1) fun t ht => h t (by simp [ht])
    simp only [List.map_cons, walkL]
    rw [B27_at _ _ _ _ _ _ _ _ _ _ _ _ _ h1, B27_at _ _ _ _ _ _ _ _ _ _ _ _ _ h2, g1, g2]
    by_cases hr : r = 0
    · have hr' := h3 hr
      subst hr; subst hr'
      exact ⟨q, q', rfl, rfl, g3⟩
    · have e1 : (r != 0) = true := by simpa using hr
      rw [e1]
      cases hb : r' != 0 with
      | true => exact ⟨r, r', rfl, rfl, fun h => absurd h hr⟩
      | false => exact ⟨r, q', rfl, rfl, fun h => absurd h hr⟩
theorem rest_both (nm : List UInt8) (ver : Int) (us : List PV) (ds : List D3) (d : D3) (ts is fs ac : List PV) (ps : List (List UInt8)) (n : Nat) (args : List Ty) (hl : args.length ≤ maxLen) (hn : args.length < n) (h : ∀ t, t ∈ args → Both nm ver us ds d ts is fs ac ps n t) :
    ∃ r r', rest20 (n + 1) nm ver us (ds.map encD) ts is fs ac (ps.map .str) (args.map Ty.enc) = some (.pv (.int .i64 r), []) ∧ rest20 (n + 1) nm ver us ((ds ++ [d]).map encD) ts is fs ac (ps.map .str) (args.map Ty.enc) = some (.pv (.int .i64 r'), []) ∧ (r = 0 → r' = 0) := by
  obtain ⟨r, r', h1, h2, h3⟩ := walk27 nm ver us ds d ts is fs ac ps n args 0 h
  have key : ∀ (es : List D3), acall Go.Proofs.Try.prog T (n + 1) 27 [.pv (pg nm ver us (es.map encD) ts is fs ac), .pv (.lst (ps.map .str)), .pv (.lst (args.map Ty.enc))] =
      walkL (B27 nm ver us (es.map encD) ts is fs ac (ps.map .str) n) (some (.pv (.int .i64 0), [])) (args.map Ty.enc) 0 := by
    intro es
    rw [e27]
    rw [loop_walk0 (L := fun m i => loopAt Go.Proofs.Try.prog T n 27 [.r, .l, .r, .b] m (st27 nm ver us (es.map encD) ts is fs ac (ps.map .str) (args.map Ty.enc) i)) (xs := args.map Ty.enc) (B := B27 nm ver us (es.map encD) ts is fs ac (ps.map .str) n) (fin := some (.pv (.int .i64 0), [])) (by simpa using hl) (fun m i => s27 n m nm ver us (es.map encD) ts is fs ac (ps.map .str) (args.map Ty.enc) i) (by simpa using hn)]
  refine ⟨r, r', ?_, ?_, h3⟩
  · unfold rest20; rw [key, h1]; rfl
  · unfold rest20; rw [key, h2]; rfl
theorem type_both (nm : List UInt8) (ver : Int) (us : List PV) (ds : List D3) (d : D3) (ts is fs ac : List PV) (ps : List (List UInt8)) (hps : ps.length ≤ maxLen) (hds : ds.length + 1 ≤ maxLen) {t : Ty} (hs : Short t) : ∃ N, ∀ n, N ≤ n → Both nm ver us ds d ts is fs ac ps n t := by
  induction hs with
  | mk hl hall ih =>
    rename_i k name args
    obtain ⟨N0, h0⟩ := all_from args ih
    refine ⟨N0 + ps.length + ds.length + args.length + 9, fun n hn => ?_⟩
    obtain ⟨m, rfl⟩ : ∃ m, n = m + 3 + 1 := ⟨n - 4, by omega⟩
    obtain ⟨q, q', g1, g2, g3⟩ := rest_both nm ver us ds d ts is fs ac ps (m + 2) args hl (by omega) (h0 (m + 2) (by omega))
    obtain ⟨b, hb⟩ := has_eq ps name hps (n := m + 1) (by omega)
    have hd1 := data_eq (n := m + 2) nm ver us ds ts is fs ac name (by omega) (by omega)
    have hd2 := data_eq (n := m + 2) nm ver us (ds ++ [d]) ts is fs ac name (by simp; omega) (by simp; omega)
    have e1 := e20 (m + 3) nm ver us (ds.map encD) ts is fs ac (ps.map .str) k name (args.map Ty.enc)
    have e2 := e20 (m + 3) nm ver us ((ds ++ [d]).map encD) ts is fs ac (ps.map .str) k name (args.map Ty.enc)
    rw [hb, hd1, g1] at e1
    rw [hb, hd2, g2] at e2
    unfold Both tyAt
    simp only [Ty.enc, encs_map]
    rw [e1, e2]
    cases h5 : k == 5 with
    | true =>
      simp only [cond_true]
      cases b with
      | true => exact ⟨q, q', rfl, rfl, g3⟩
      | false => exact ⟨11, 11, rfl, rfl, fun h => h⟩
    | false =>
      simp only [cond_false]
      cases h6 : k == 6 with
      | false => exact ⟨q, q', rfl, rfl, g3⟩
      | true =>
        simp only [cond_true]
        have one : ∀ (x : D3) (v : Int), ((some ((.pv (.tup [encD x, .int .i64 0]), []) : Out)).bind retPV).bind (fun r => bif (Sh.tup [.agg [.str, .lst, .lst], .int .i64]).fits r then
            (bif (r.r 1).toInt != 0 then some ((.pv (.int .i64 (r.r 1).toInt), []) : Out) else
              bif (((r.r 0).c 1).toLst.length : Int) != ((args.map Ty.enc).length : Int) then some (.pv (.int .i64 13), []) else some (.pv (.int .i64 v), [])) else none) =
            bif (x.2.1.length : Int) != ((args.map Ty.enc).length : Int) then some (.pv (.int .i64 13), []) else some (.pv (.int .i64 v), []) := fun x v => rfl
        have none' : ∀ (v : Int), ((some ((.pv (.tup [encD ([], [], []), .int .i64 11]), []) : Out)).bind retPV).bind (fun r => bif (Sh.tup [.agg [.str, .lst, .lst], .int .i64]).fits r then
            (bif (r.r 1).toInt != 0 then some ((.pv (.int .i64 (r.r 1).toInt), []) : Out) else
              bif (((r.r 0).c 1).toLst.length : Int) != ((args.map Ty.enc).length : Int) then some (.pv (.int .i64 13), []) else some (.pv (.int .i64 v), [])) else none) = some (.pv (.int .i64 11), []) := fun v => rfl
        unfold dataR
        rw [List.find?_append]
        cases hf : ds.find? (fun x => x.1 == name) with
        | some x =>
          simp only [Option.some_or]
          rw [one, one]
          cases hc : (x.2.1.length : Int) != ((args.map Ty.enc).length : Int) with
          | true => exact ⟨13, 13, rfl, rfl, fun h => h⟩
          | false => exact ⟨q, q', rfl, rfl, g3⟩
        | none =>
          simp only [Option.none_or]
          rw [none']
          cases hf2 : [d].find? (fun x => x.1 == name) with
          | none =>
            simp only
            rw [none']
            exact ⟨11, 11, rfl, rfl, fun h => h⟩
          | some x =>
            simp only
            rw [one]
            cases hc : (x.2.1.length : Int) != ((args.map Ty.enc).length : Int) with
            | true => exact ⟨11, 13, rfl, rfl, fun h => absurd h (by decide)⟩
            | false => exact ⟨11, q', rfl, rfl, fun h => absurd h (by decide)⟩
theorem e18' (n : Nat) : acall Go.Proofs.Try.prog T (n + 9) 18 [] = some (.pv (.bool true), []) := by
  kernel_rfl
theorem c19 (n : Nat) (xs : List PV) : acall Go.Proofs.Try.prog T (n + 1) 19 [.pv (.lst xs)] = cloneOut 3 64 xs := by
  kernel_rfl
theorem headOk_enc (ds : List D3) : headOk 3 (ds.map encD) = true := by cases ds <;> rfl
theorem law (nm : List UInt8) (ver : Int) (us : List PV) (ds : List D3) (d : D3) (ts is fs ac : List PV) (ps : List (List UInt8)) (hps : ps.length ≤ maxLen) (hds : ds.length * 64 ≤ reachBytes) {t : Ty} (hs : Short t) :
    ∃ n, acall Go.Proofs.Try.prog T n 3 [.pv (pg nm ver us (ds.map encD) ts is fs ac), .pv (encD d), .pv (.lst (ps.map .str)), .pv t.enc] = some (.pv (.bool true), []) := by
  have hr : reachBytes = 140737488351232 := rfl
  obtain ⟨N, hN⟩ := type_both nm ver us ds d ts is fs ac ps hps (by simp only [maxLen]; omega) hs
  refine ⟨N + 9 + 1, ?_⟩
  obtain ⟨r, r', h1, h2, h3⟩ := hN (N + 9) (by omega)
  obtain ⟨k, name, args⟩ := t
  have e := e3 (N + 9) nm ver us (ds.map encD) ts is fs ac (ps.map .str) k name (Ty.enc.encs args) d.1 d.2.1 d.2.2
  refine e.trans ?_
  have hc : acall Go.Proofs.Try.prog T (N + 9) 19 [.pv (.lst (ds.map encD))] = some (.bld 3 (ds.map encD), []) := by
    rw [c19 (N + 8)]
    unfold cloneOut
    have : small 0 (ds.map encD).length 64 = true := by simp [small]; omega
    rw [headOk_enc, this]
    rfl
  have hsm : small (ds.map encD).length 1 64 = true := by simp [small]; omega
  have k1 : acall Go.Proofs.Try.prog T (N + 9) 20 [.pv (pg nm ver us (ds.map encD) ts is fs ac), .pv (.lst (ps.map .str)), .pv (.agg [.int .i64 k, .str name, .lst (Ty.enc.encs args)])] = some (.pv (.int .i64 r), []) := h1
  have k2 : acall Go.Proofs.Try.prog T (N + 9) 20 [.pv (pg nm ver us (ds.map encD ++ [.agg [.str d.1, .lst d.2.1, .lst d.2.2]]) ts is fs ac), .pv (.lst (ps.map .str)), .pv (.agg [.int .i64 k, .str name, .lst (Ty.enc.encs args)])] = some (.pv (.int .i64 r'), []) := by
    have := h2
    unfold tyAt at this
    rw [List.map_append] at this
    exact this
  rw [e18' N, hc]
  simp only [Option.bind_some, retPV, retB, Sh.fits, PV.toBool, cond_true, Bool.not_true, cond_false, Nat.beq_refl]
  rw [hsm, k1]
  simp only [cond_true, Option.bind_some, retPV, Sh.fits, PV.toInt, decide_true]
  rw [k2]
  by_cases h0 : r = 0
  · have := h3 h0
    subst h0; subst this
    rfl
  · have : (r != 0) = true := by simpa using h0
    rw [this]; rfl
variable {P : Program}
theorem fits_int {t : TypeId} {k : IntKind} (hu : P.underlying t = some (.int k)) {pvs : List PV} (h : Fits P t pvs) : ∃ n, pvs = [.int k n] := by
  cases h with
  | int n hu' _ => rw [hu] at hu'; injection hu' with hu'; injection hu' with hu'; subst hu'; exact ⟨n, rfl⟩
  | bool _ hu' => rw [hu] at hu'; cases hu'
  | str _ hu' => rw [hu] at hu'; cases hu'
  | nilp hu' => rw [hu] at hu'; cases hu'
  | ptr _ hu' => rw [hu] at hu'; cases hu'
  | lst _ hu' => rw [hu] at hu'; cases hu'
  | struct _ hu' => rw [hu] at hu'; cases hu'
theorem fits_str {t : TypeId} (hu : P.underlying t = some .string) {pvs : List PV} (h : Fits P t pvs) : ∃ s, pvs = [.str s] := by
  cases h with
  | str s hu' => exact ⟨s, rfl⟩
  | int _ hu' _ => rw [hu] at hu'; cases hu'
  | bool _ hu' => rw [hu] at hu'; cases hu'
  | nilp hu' => rw [hu] at hu'; cases hu'
  | ptr _ hu' => rw [hu] at hu'; cases hu'
  | lst _ hu' => rw [hu] at hu'; cases hu'
  | struct _ hu' => rw [hu] at hu'; cases hu'
theorem fits_lst {t e : TypeId} (hu : P.underlying t = some (.slice e)) {pvs : List PV} (h : Fits P t pvs) : ∃ xs : List (List PV), pvs = [.lst (xs.map (pvElem P e))] ∧ xs.length * P.bytesOf e ≤ reachBytes ∧ xs.length ≤ maxLen ∧ ∀ x, x ∈ xs → Fits P e x := by
  cases h with
  | lst xs hu' h1 h2 h3 => rw [hu] at hu'; injection hu' with hu'; injection hu' with hu'; subst hu'; exact ⟨xs, rfl, h1, h2, h3⟩
  | str _ hu' => rw [hu] at hu'; cases hu'
  | int _ hu' _ => rw [hu] at hu'; cases hu'
  | bool _ hu' => rw [hu] at hu'; cases hu'
  | nilp hu' => rw [hu] at hu'; cases hu'
  | ptr _ hu' => rw [hu] at hu'; cases hu'
  | struct _ hu' => rw [hu] at hu'; cases hu'
theorem fits_struct {t : TypeId} {fs : Array Field} (hu : P.underlying t = some (.struct fs)) {pvs : List PV} (h : Fits P t pvs) : FitsF P fs.toList pvs := by
  cases h with
  | struct _ hu' h1 => rw [hu] at hu'; injection hu' with hu'; injection hu' with hu'; subst hu'; exact h1
  | str _ hu' => rw [hu] at hu'; cases hu'
  | int _ hu' _ => rw [hu] at hu'; cases hu'
  | bool _ hu' => rw [hu] at hu'; cases hu'
  | nilp hu' => rw [hu] at hu'; cases hu'
  | ptr _ hu' => rw [hu] at hu'; cases hu'
  | lst _ hu' => rw [hu] at hu'; cases hu'
def ftypes (P : Program) (t : TypeId) : Option (List TypeId) := match P.underlying t with | some (.struct fs) => some (fs.toList.map (·.type)) | _ => none
inductive Parts (P : Program) : List TypeId → List PV → Prop where
  | nil : Parts P [] []
  | cons {t : TypeId} {ts : List TypeId} {a b : List PV} : Fits P t a → Parts P ts b → Parts P (t :: ts) (a ++ b)
theorem parts_of : ∀ {fs : List Field} {pvs : List PV}, FitsF P fs pvs → Parts P (fs.map (·.type)) pvs
  | [], _, h => by cases h; exact .nil
  | f :: fs, _, h => by cases h with | cons h1 h2 => exact .cons h1 (parts_of h2)
theorem fits_parts {t : TypeId} {ts : List TypeId} (h : ftypes P t = some ts) {pvs : List PV} (hf : Fits P t pvs) : Parts P ts pvs := by
  unfold ftypes at h
  split at h
  · rename_i fs hu
    obtain rfl := Option.some.inj h
    exact parts_of (fits_struct hu hf)
  · cases h
theorem u3 : Go.Proofs.Try.prog.underlying 3 = some (.int .i64) := by kernel_rfl
theorem u9 : Go.Proofs.Try.prog.underlying 9 = some .string := by kernel_rfl
theorem u34 : Go.Proofs.Try.prog.underlying 34 = some (.slice 36) := by kernel_rfl
theorem u30 : Go.Proofs.Try.prog.underlying 30 = some (.slice 9) := by kernel_rfl
theorem u31 : Go.Proofs.Try.prog.underlying 31 = some (.slice 165) := by kernel_rfl
theorem u23 : Go.Proofs.Try.prog.underlying 23 = some (.slice 33) := by kernel_rfl
theorem f36 : ftypes Go.Proofs.Try.prog 36 = some [3, 9, 34] := by kernel_rfl
theorem f33 : ftypes Go.Proofs.Try.prog 33 = some [9, 30, 31] := by kernel_rfl
theorem f29 : ftypes Go.Proofs.Try.prog 29 = some [9, 3, 22, 23, 24, 25, 26, 27] := by kernel_rfl
theorem st36 : isStruct Go.Proofs.Try.prog 36 = true := by kernel_rfl
theorem st33 : isStruct Go.Proofs.Try.prog 33 = true := by kernel_rfl
theorem st29 : isStruct Go.Proofs.Try.prog 29 = true := by kernel_rfl
theorem st9 : isStruct Go.Proofs.Try.prog 9 = false := by kernel_rfl

theorem parts3 {a b c : TypeId} {pvs : List PV} (h : Parts P [a, b, c] pvs) : ∃ x y z, pvs = x ++ (y ++ z) ∧ Fits P a x ∧ Fits P b y ∧ Fits P c z := by
  cases h with
  | cons h1 h2 => cases h2 with
    | cons h2 h3 => cases h3 with
      | cons h3 h4 => cases h4; exact ⟨_, _, _, by rw [List.append_nil], h1, h2, h3⟩

theorem list_of {α β : Type} {f : β → α} {Q : β → Prop} : ∀ {l : List α}, (∀ x, x ∈ l → ∃ y, x = f y ∧ Q y) → ∃ ys : List β, l = ys.map f ∧ ∀ y, y ∈ ys → Q y
  | [], _ => ⟨[], rfl, by simp⟩
  | a :: l, h => by
    obtain ⟨y, h1, h2⟩ := h a (by simp)
    obtain ⟨ys, h3, h4⟩ := list_of (l := l) fun x hx => h x (by simp [hx])
    exact ⟨y :: ys, by rw [h1, h3]; rfl, fun z hz => by rcases List.mem_cons.1 hz with rfl | hz; exact h2; exact h4 z hz⟩

theorem ty_of : ∀ (N : Nat) {pvs : List PV}, SizeOf.sizeOf pvs < N → Fits Go.Proofs.Try.prog 36 pvs → ∃ ty, PV.agg pvs = Ty.enc ty ∧ Short ty
  | 0, pvs, h, _ => absurd h (Nat.not_lt_zero _)
  | N + 1, pvs, h, hf => by
    obtain ⟨x, y, z, rfl, g1, g2, g3⟩ := parts3 (fits_parts f36 hf)
    obtain ⟨k, rfl⟩ := fits_int u3 g1
    obtain ⟨nm, rfl⟩ := fits_str u9 g2
    obtain ⟨xs, rfl, _, hlen, hall⟩ := fits_lst u34 g3
    have hx : ∀ x, x ∈ xs → ∃ ty, pvElem Go.Proofs.Try.prog 36 x = Ty.enc ty ∧ Short ty := fun x hx => by
      unfold pvElem
      rw [st36]
      refine ty_of N ?_ (hall x hx)
      have h1 : SizeOf.sizeOf (pvElem Go.Proofs.Try.prog 36 x) < SizeOf.sizeOf (xs.map (pvElem Go.Proofs.Try.prog 36)) := List.sizeOf_lt_of_mem (List.mem_map.2 ⟨x, hx, rfl⟩)
      have h2 : pvElem Go.Proofs.Try.prog 36 x = .agg x := by unfold pvElem; rw [st36]; rfl
      rw [h2, PV.agg.sizeOf_spec] at h1
      simp only [List.cons_append, List.nil_append, List.cons.sizeOf_spec, PV.lst.sizeOf_spec] at h
      omega
    obtain ⟨ys, h3, h4⟩ := list_of (l := xs.map (pvElem Go.Proofs.Try.prog 36)) (f := Ty.enc) (Q := Short) fun p hp => by
      obtain ⟨x, hx', rfl⟩ := List.mem_map.1 hp
      obtain ⟨ty, e1, e2⟩ := hx x hx'
      exact ⟨ty, e1, e2⟩
    refine ⟨.mk k nm ys, ?_, .mk (by have := congrArg List.length h3; simp at this; omega) h4⟩
    simp [Ty.enc, encs_map, h3]
theorem tok : TOk Go.Proofs.Try.prog := TOk.of _ (by kernel_rfl) (by kernel_rfl)
theorem fok : FOk Go.Proofs.Try.prog := by
  have h : (Go.Proofs.Try.prog.funcs.toList.all fun fn => !(fn.name == "runtime.NumGoroutine")) = true := by kernel_rfl
  intro g fn hg
  have := List.all_eq_true.1 h fn (by simpa using Array.mem_of_getElem? hg)
  simpa using this
theorem mixed : Go.Proofs.Try.prog.follows .mixedOrders = true := by kernel_rfl
def S : List TypeId := [29, 33, 30, 36, 9, 3, 22, 23, 24, 25, 26, 27, 31, 34, 198, 162, 157, 93, 139, 165, 81, 77, 79, 146, 144, 142]
theorem closed : closedT Go.Proofs.Try.prog S = true := by kernel_rfl
theorem shapes : ([29, 33, 30, 36, 9, 3].all (shapeOk Go.Proofs.Try.prog)) = true := by kernel_rfl

theorem prims : PrimOk Go.Proofs.Try.prog T := by
  intro f g hg call hc args out h hpl
  simp only [T] at hg
  split at hg
  · obtain rfl := Option.some.inj hg
    exact clone_ok (E := envOf T call) tok fok mixed hc (clone_nn call) (clone_nil call) h
  · cases hg
theorem snd (n : Nat) : CallOk Go.Proofs.Try.prog (acall Go.Proofs.Try.prog T n) := sound tok fok mixed prims n
theorem u22 : Go.Proofs.Try.prog.underlying 22 = some (.slice 198) := by kernel_rfl
theorem u24 : Go.Proofs.Try.prog.underlying 24 = some (.slice 162) := by kernel_rfl
theorem u25 : Go.Proofs.Try.prog.underlying 25 = some (.slice 157) := by kernel_rfl
theorem u26 : Go.Proofs.Try.prog.underlying 26 = some (.slice 93) := by kernel_rfl
theorem u27 : Go.Proofs.Try.prog.underlying 27 = some (.slice 139) := by kernel_rfl
theorem b33 : Go.Proofs.Try.prog.bytesOf 33 = 64 := by kernel_rfl
theorem data_of {pvs : List PV} (h : Fits Go.Proofs.Try.prog 33 pvs) : ∃ d : D3, PV.agg pvs = encD d := by
  obtain ⟨x, y, z, rfl, g1, g2, g3⟩ := parts3 (fits_parts f33 h)
  obtain ⟨nm, rfl⟩ := fits_str u9 g1
  obtain ⟨xs, rfl, _⟩ := fits_lst u30 g2
  obtain ⟨ys, rfl, _⟩ := fits_lst u31 g3
  exact ⟨(nm, _, _), rfl⟩
theorem pg_of {pvs : List PV} (h : Fits Go.Proofs.Try.prog 29 pvs) : ∃ nm ver us, ∃ ds : List D3, ∃ ts is fs ac, PV.agg pvs = pg nm ver us (ds.map encD) ts is fs ac ∧ ds.length * 64 ≤ reachBytes := by
  have h8 := fits_parts f29 h
  cases h8 with | cons a0 h8 => cases h8 with | cons a1 h8 => cases h8 with | cons a2 h8 => cases h8 with | cons a3 h8 => cases h8 with | cons a4 h8 => cases h8 with | cons a5 h8 => cases h8 with | cons a6 h8 => cases h8 with | cons a7 h8 =>
  cases h8
  obtain ⟨nm, rfl⟩ := fits_str u9 a0
  obtain ⟨ver, rfl⟩ := fits_int u3 a1
  obtain ⟨x2, rfl, _⟩ := fits_lst u22 a2
  obtain ⟨x3, rfl, hb, _, hall⟩ := fits_lst u23 a3
  obtain ⟨x4, rfl, _⟩ := fits_lst u24 a4
  obtain ⟨x5, rfl, _⟩ := fits_lst u25 a5
  obtain ⟨x6, rfl, _⟩ := fits_lst u26 a6
  obtain ⟨x7, rfl, _⟩ := fits_lst u27 a7
  obtain ⟨ds, h1, _⟩ := list_of (l := x3.map (pvElem Go.Proofs.Try.prog 33)) (f := encD) (Q := fun _ => True) fun p hp => by
    obtain ⟨x, hx, rfl⟩ := List.mem_map.1 hp
    obtain ⟨d, hd⟩ := data_of (hall x hx)
    refine ⟨d, ?_, trivial⟩
    unfold pvElem; rw [st33]; exact hd
  refine ⟨nm, ver, x2.map (pvElem Go.Proofs.Try.prog 198), ds, x4.map (pvElem Go.Proofs.Try.prog 162), x5.map (pvElem Go.Proofs.Try.prog 157), x6.map (pvElem Go.Proofs.Try.prog 93), x7.map (pvElem Go.Proofs.Try.prog 139), ?_, ?_⟩
  rotate_left
  · have := congrArg List.length h1
    simp at this
    rw [← this, ← b33]; exact hb
  · rw [h1]; rfl
theorem args_law : ∀ ps, ArgsFit Go.Proofs.Try.prog [29, 33, 30, 36] ps → ∃ n, acall Go.Proofs.Try.prog T n 3 (ps.map .pv) = some (.pv (.bool true), []) := by
  intro ps h
  cases h with | cons a0 h => cases h with | cons a1 h => cases h with | cons a2 h => cases h with | cons a3 h =>
  cases h
  obtain ⟨nm, ver, us, ds, ts, is, fs, ac, e0, hb⟩ := pg_of a0
  obtain ⟨d, e1⟩ := data_of a1
  obtain ⟨xs, rfl, _, hl, hall⟩ := fits_lst u30 a2
  obtain ⟨ty, e3, hs⟩ := ty_of _ (Nat.lt_succ_self _) a3
  obtain ⟨ns, h1, _⟩ := list_of (l := xs.map (pvElem Go.Proofs.Try.prog 9)) (f := PV.str) (Q := fun _ => True) fun p hp => by
    obtain ⟨x, hx, rfl⟩ := List.mem_map.1 hp
    obtain ⟨s, rfl⟩ := fits_str u9 (hall x hx)
    exact ⟨s, by unfold pvElem; rw [st9]; rfl, trivial⟩
  obtain ⟨n, hn⟩ := law nm ver us ds d ts is fs ac ns (by have := congrArg List.length h1; simp at this; omega) hb hs
  refine ⟨n, ?_⟩
  rw [← hn, ← e0, ← e1, ← e3, ← h1]
  have s30 : isStruct Go.Proofs.Try.prog 30 = false := by kernel_rfl
  simp only [List.map_cons, List.map_nil, pvElem, st29, st33, s30, st36, cond_true, cond_false, List.headD_cons]
end Go.AL.KM
namespace Go.Proofs.Ytofjejdlggmcjaa.kindMore
open Go.ChangeShapes Go.WideShapes Go.ChangeAt Go.RowKit
theorem own : ownKnob Try.prog.godebug = none := by kernel_rfl
def nilS : Value := .slice none 0 0
set_option maxRecDepth 100000 in
theorem lifted (os : Os) (started : os.Started) (H : Type) (enc : TypeId × Value → H) :
    ReturnsInHanded {} Try.checked os 3 .any (Rows.kindMoreSpec.pre6 enc Try.prog Try.f3 Rows.kindMoreRow.domain false) (Rows.kindMoreSpec.post enc Try.prog Try.f3 false true false false) := by
  refine returnsInHanded_of_change_sized (C := Try.checked) own started (by kernel_rfl) Try.func3
    (ChangeSpec.witness6 (enc := enc) (C := Try.checked) false ⟨#[], #[.agg #[.string ByteArray.empty, .int .i64 0, nilS, nilS, nilS, nilS, nilS, nilS], .agg #[.string ByteArray.empty, nilS, nilS], nilS, .agg #[.int .i64 0, .string ByteArray.empty, nilS]], []⟩ 8 (by kernel_rfl) (by kernel_rfl) (by kernel_rfl) (by kernel_rfl)) ?_
  intro W base args ds gs before hval0 hW hcnd hsz0 _
  have hW' := hW
  obtain ⟨p, q, hA0, hV, rfl, hfz, hnd⟩ := hW
  have hA : DataW.TrodAll enc Try.prog W 0 (fun _ => true) true Try.f3.params.toList args.toList ds p := hA0
  obtain ⟨rfl, rfl⟩ := trodVars_none hV
  have hsz : (DataW.weightsEach Try.prog (Try.f3.params.toList ++ []) (ds ++ [])).all (· ≤ reachBytes) = true := hsz0
  rw [List.append_nil, List.append_nil] at hsz
  rw [Try.params3] at hA hval0 hsz
  refine (Go.AL.law_calls Go.AL.KM.snd Go.AL.KM.closed (f := 3) (ts := [29, 33, 30, 36]) (by kernel_rfl) hA (fun j t v e1 e2 => hval0 j t v (by simpa using e1) e2) hsz Go.AL.KM.args_law).mono fun e W' ⟨he, bel, hpost⟩ => ?_
  subst he
  have hlen : ∀ {ts : List TypeId} {vs : List Value} {ds : List (DataW H)} {p : List MemPlace}, DataW.TrodAll enc Try.prog W 0 (fun _ => true) true ts vs ds p → ds.length = ts.length := by
    intro ts
    induction ts with
    | nil => intro vs ds p h; cases vs <;> cases ds <;> first | rfl | exact h.elim
    | cons t ts ih => intro vs ds p h; cases vs <;> cases ds <;> first | exact h.elim | (obtain ⟨_, _, _, h2, _⟩ := h; simp [ih h2])
  have hl : ds.length = 4 := hlen hA
  obtain ⟨d1, d2, d3, d4, rfl⟩ : ∃ d1 d2 d3 d4, ds = [d1, d2, d3, d4] := by
    match ds, hl with
    | [d1, d2, d3, d4], _ => exact ⟨d1, d2, d3, d4, rfl⟩
  exact ⟨_, rfl, _, _, _, [], _, [], hW', trodAll_mk1 (shut_bool Try.underlying4 _), (by rw [Try.params3]; exact hpost), rfl, bel.frame _, fun h => by cases h⟩
theorem over : Rows.kindMoreRow.holds Try.pinned (OpenSpec.ofChange Rows.kindMoreSpec) :=
  OpenClaim.holds_of_wide 3 Try.f3 rfl rfl rfl rfl rfl rfl rfl ⟨rfl, rfl, rfl, rfl, rfl⟩ rfl rfl rfl rfl rfl (by kernel_rfl) Try.func3 (by kernel_rfl)
    (of_decide_eq_true (by kernel_rfl)) (by unfold Func.isWrapper; first | (rw [if_pos (by decide +kernel)]; kernel_rfl) | (rw [if_neg (by decide +kernel)]; exact ⟨rfl, rfl⟩))
    (fun os started H enc _ => lifted os started H enc)
theorem proved : Rows.KindMoreSaid := over
#print axioms proved
end Go.Proofs.Ytofjejdlggmcjaa.kindMore
namespace Go.Proofs.Ytofjejdlggmcjaa
/-- The row, under a short name. -/
theorem kindMore_holds : Rows.KindMoreSaid := kindMore.proved
end Go.Proofs.Ytofjejdlggmcjaa
