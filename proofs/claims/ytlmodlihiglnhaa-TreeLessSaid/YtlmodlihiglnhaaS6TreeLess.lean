/- TreeLess: the row. -/
import Derived.Test.YtlmodlihiglnhaaS6Law
import Derived.Test.YtlmodlihiglnhaaS6Snd
import Derived.Test.YtlmodlihiglnhaaAL4
import Derived.WalkKit
import Derived.ProofKit
import Derived.OpenShut
import Derived.ShutString
import Derived.ChangeOld
import Derived.Below
import Derived.SizedLaws
import Derived.JoinedCond
import Derived.Deep.CondSized
set_option linter.unusedVariables false
set_option linter.unusedSimpArgs false
namespace Go.AL.S6.treeLess
open Go Go.AL Go.AL.S6
def S : List TypeId := [63, 9, 3, 56, 111, 57, 116, 30, 114, 174, 31, 43, 58, 120, 60, 128, 35, 32, 33, 86, 84, 82, 59, 124, 61, 132]
theorem closed : closedT Pr S = true := by kernel_rfl
theorem f63 : ftypes Pr 63 = some [9, 3, 56, 57, 58, 59, 60, 61] := by kernel_rfl
theorem is63 : isStruct Pr 63 = true := by kernel_rfl
theorem u9 : Pr.underlying 9 = some .string := by kernel_rfl
theorem u3 : Pr.underlying 3 = some (.int .i64) := by kernel_rfl
theorem u56 : Pr.underlying 56 = some (.slice 111) := by kernel_rfl
theorem by111 : Pr.bytesOf 111 = 32 := by kernel_rfl
theorem f111 : ftypes Pr 111 = some [9, 3, 3] := by kernel_rfl
theorem is111 : isStruct Pr 111 = true := by kernel_rfl
theorem u57 : Pr.underlying 57 = some (.slice 116) := by kernel_rfl
theorem by116 : Pr.bytesOf 116 = 64 := by kernel_rfl
theorem f116 : ftypes Pr 116 = some [9, 30, 114] := by kernel_rfl
theorem is116 : isStruct Pr 116 = true := by kernel_rfl
theorem u30 : Pr.underlying 30 = some (.slice 9) := by kernel_rfl
theorem by9 : Pr.bytesOf 9 = 16 := by kernel_rfl
theorem u114 : Pr.underlying 114 = some (.slice 174) := by kernel_rfl
theorem by174 : Pr.bytesOf 174 = 40 := by kernel_rfl
theorem f174 : ftypes Pr 174 = some [9, 31] := by kernel_rfl
theorem is174 : isStruct Pr 174 = true := by kernel_rfl
theorem u31 : Pr.underlying 31 = some (.slice 43) := by kernel_rfl
theorem by43 : Pr.bytesOf 43 = 48 := by kernel_rfl
theorem f43 : ftypes Pr 43 = some [3, 9, 31] := by kernel_rfl
theorem is43 : isStruct Pr 43 = true := by kernel_rfl
theorem u58 : Pr.underlying 58 = some (.slice 120) := by kernel_rfl
theorem by120 : Pr.bytesOf 120 = 40 := by kernel_rfl
theorem f120 : ftypes Pr 120 = some [9, 60] := by kernel_rfl
theorem is120 : isStruct Pr 120 = true := by kernel_rfl
theorem u60 : Pr.underlying 60 = some (.slice 128) := by kernel_rfl
theorem by128 : Pr.bytesOf 128 = 272 := by kernel_rfl
theorem f128 : ftypes Pr 128 = some [9, 30, 30, 31, 43, 35] := by kernel_rfl
theorem is128 : isStruct Pr 128 = true := by kernel_rfl
theorem f35 : ftypes Pr 35 = some [3, 3, 9, 30, 31, 32, 33, 3] := by kernel_rfl
theorem is35 : isStruct Pr 35 = true := by kernel_rfl
theorem u32 : Pr.underlying 32 = some (.slice 35) := by kernel_rfl
theorem by35 : Pr.bytesOf 35 = 136 := by kernel_rfl
theorem u33 : Pr.underlying 33 = some (.slice 86) := by kernel_rfl
theorem by86 : Pr.bytesOf 86 = 192 := by kernel_rfl
theorem f86 : ftypes Pr 86 = some [84, 35] := by kernel_rfl
theorem is86 : isStruct Pr 86 = true := by kernel_rfl
theorem f84 : ftypes Pr 84 = some [3, 3, 9, 82] := by kernel_rfl
theorem is84 : isStruct Pr 84 = true := by kernel_rfl
theorem u82 : Pr.underlying 82 = some (.slice 84) := by kernel_rfl
theorem by84 : Pr.bytesOf 84 = 56 := by kernel_rfl
theorem u59 : Pr.underlying 59 = some (.slice 124) := by kernel_rfl
theorem by124 : Pr.bytesOf 124 = 56 := by kernel_rfl
theorem f124 : ftypes Pr 124 = some [9, 9, 60] := by kernel_rfl
theorem is124 : isStruct Pr 124 = true := by kernel_rfl
theorem u61 : Pr.underlying 61 = some (.slice 132) := by kernel_rfl
theorem by132 : Pr.bytesOf 132 = 248 := by kernel_rfl
theorem f132 : ftypes Pr 132 = some [9, 30, 31, 43, 35] := by kernel_rfl
theorem is132 : isStruct Pr 132 = true := by kernel_rfl
theorem reach : reachBytes = 140737488351232 := rfl
theorem ty_of' : ∀ (N : Nat) {pvs : List PV}, SizeOf.sizeOf pvs < N → Fits Pr 43 pvs → ∃ ty, pvElem Pr 43 pvs = Ty.enc ty ∧ Okt ty
  | 0, pvs, h, _ => absurd h (Nat.not_lt_zero _)
  | N + 1, pvs, h, hf => by
    obtain ⟨a, b, rfl, g1, g⟩ := (fits_parts f43 hf).c1
    obtain ⟨c, d, rfl, g2, g⟩ := g.c1
    obtain ⟨e, z, rfl, g3, g⟩ := g.c1
    obtain rfl := g.c0
    obtain ⟨k, rfl, _⟩ := fits_int u3 g1
    obtain ⟨nm, rfl, _⟩ := fits_str u9 g2
    obtain ⟨xs, rfl, hb, hlen, hall⟩ := fits_lst u31 g3
    have hx : ∀ x, x ∈ xs → ∃ ty, pvElem Pr 43 x = Ty.enc ty ∧ Okt ty := fun x hx => by
      refine ty_of' N ?_ (hall x hx)
      have h1 : SizeOf.sizeOf (pvElem Pr 43 x) < SizeOf.sizeOf (xs.map (pvElem Pr 43)) := List.sizeOf_lt_of_mem (List.mem_map.2 ⟨x, hx, rfl⟩)
      rw [elem_struct is43, PV.agg.sizeOf_spec] at h1
      simp only [List.cons_append, List.nil_append, List.cons.sizeOf_spec, PV.lst.sizeOf_spec] at h
      omega
    obtain ⟨ys, h3, h4⟩ := list_of (l := xs.map (pvElem Pr 43)) (f := Ty.enc) (Q := Okt) fun p hp => by
      obtain ⟨x, hx', rfl⟩ := List.mem_map.1 hp
      exact hx x hx'
    rw [by43] at hb
    have hxy : xs.length = ys.length := by have := congrArg List.length h3; simpa using this
    refine ⟨.mk k nm ys, ?_, .mk (by omega) (by rw [← hxy]; exact hb) h4⟩
    rw [elem_struct is43, enc_mk, h3]
    rfl
theorem ty_of {pvs : List PV} (h : Fits Pr 43 pvs) : ∃ ty : Ty, pvs = [.int .i64 ty.kind, .str ty.name, .lst (ty.args.map Ty.enc)] ∧ Okt ty := by
  obtain ⟨ty, e, ho⟩ := ty_of' _ (Nat.lt_succ_self _) h
  refine ⟨ty, ?_, ho⟩
  rw [elem_struct is43] at e
  obtain ⟨k, n, a⟩ := ty
  rw [enc_mk] at e
  exact PV.agg.inj e
theorem str_of {pvs : List PV} (h : Fits Pr 9 pvs) : ∃ s : Str, pvElem Pr 9 pvs = .str s ∧ True := by
  obtain ⟨s, e, _⟩ := elem_str u9 h
  exact ⟨s, e, trivial⟩
theorem strs_of {pvs : List PV} (h : Fits Pr 30 pvs) : ∃ xs : List Str, pvs = [.lst (xs.map .str)] ∧ xs.length ≤ maxLen := by
  obtain ⟨xs, e, hl, _⟩ := lst_of u30 (f := PV.str) (Q := fun _ => True) (fun _ => str_of) h
  exact ⟨xs, e, hl⟩
theorem tys_of {pvs : List PV} (h : Fits Pr 31 pvs) : ∃ l, pvs = [.lst l] ∧ OkTs l := by
  obtain ⟨xs, e, hl, hb, h3⟩ := lst_of u31 (f := Ty.enc) (Q := Okt) (fun _ h => ty_of' _ (Nat.lt_succ_self _) h) h
  rw [by43] at hb
  exact ⟨_, e, xs, rfl, hb, hl, h3⟩
theorem size_app (a b : List PV) : SizeOf.sizeOf b ≤ SizeOf.sizeOf (a ++ b) := by
  induction a with
  | nil => simp
  | cons x a ih => simp only [List.cons_append, List.cons.sizeOf_spec]; omega
theorem size_mem {e : TypeId} (is : isStruct Pr e = true) {xs : List (List PV)} {x : List PV} (hx : x ∈ xs) : SizeOf.sizeOf x + 1 < SizeOf.sizeOf (PV.lst (xs.map (pvElem Pr e))) := by
  have h1 : SizeOf.sizeOf (pvElem Pr e x) < SizeOf.sizeOf (xs.map (pvElem Pr e)) := List.sizeOf_lt_of_mem (List.mem_map.2 ⟨x, hx, rfl⟩)
  rw [elem_struct is, PV.agg.sizeOf_spec] at h1
  simp only [PV.lst.sizeOf_spec]
  omega
theorem pa_of' : ∀ (N : Nat) {pvs : List PV}, SizeOf.sizeOf pvs < N → Fits Pr 84 pvs → ∃ p : Pa, pvs = p.cells ∧ Okp p
  | 0, pvs, h, _ => absurd h (Nat.not_lt_zero _)
  | N + 1, pvs, h, hf => by
    obtain ⟨a, z, rfl, g1, g⟩ := (fits_parts f84 hf).c1
    obtain ⟨b, z, rfl, g2, g⟩ := g.c1
    obtain ⟨c, z, rfl, g3, g⟩ := g.c1
    obtain ⟨d, z, rfl, g4, g⟩ := g.c1
    obtain rfl := g.c0
    obtain ⟨k, rfl, _⟩ := fits_int u3 g1
    obtain ⟨n, rfl, _⟩ := fits_int u3 g2
    obtain ⟨t, rfl, _⟩ := fits_str u9 g3
    obtain ⟨xs, rfl, _, hlen, hall⟩ := fits_lst u82 g4
    simp only [List.cons_append, List.nil_append, List.cons.sizeOf_spec] at h
    obtain ⟨ys, h3, h4⟩ := list_of (l := xs.map (pvElem Pr 84)) (f := Pa.enc) (Q := Okp) fun p hp => by
      obtain ⟨x, hx, rfl⟩ := List.mem_map.1 hp
      have := size_mem is84 hx
      obtain ⟨p, hp, ho⟩ := pa_of' N (by omega) (hall x hx)
      exact ⟨p, by rw [elem_struct is84, hp]; rfl, ho⟩
    have hxy : xs.length = ys.length := by have := congrArg List.length h3; simpa using this
    exact ⟨.mk k n t ys, by rw [pa_cells, h3]; rfl, .mk (by show ys.length ≤ maxLen; omega) h4⟩
theorem pa_of {pvs : List PV} (h : Fits Pr 84 pvs) : ∃ p : Pa, pvs = p.cells ∧ Okp p := pa_of' _ (Nat.lt_succ_self _) h
theorem ex_of' : ∀ (N : Nat) {pvs : List PV}, SizeOf.sizeOf pvs < N → Fits Pr 35 pvs → ∃ e : Ex, pvs = e.cells ∧ Okx e
  | 0, pvs, h, _ => absurd h (Nat.not_lt_zero _)
  | N + 1, pvs, h, hf => by
    obtain ⟨a, z, rfl, g1, g⟩ := (fits_parts f35 hf).c1
    obtain ⟨b, z, rfl, g2, g⟩ := g.c1
    obtain ⟨c, z, rfl, g3, g⟩ := g.c1
    obtain ⟨d, z, rfl, g4, g⟩ := g.c1
    obtain ⟨e, z, rfl, g5, g⟩ := g.c1
    obtain ⟨f, z, rfl, g6, g⟩ := g.c1
    obtain ⟨i, z, rfl, g7, g⟩ := g.c1
    obtain ⟨j, z, rfl, g8, g⟩ := g.c1
    obtain rfl := g.c0
    obtain ⟨k, rfl, _⟩ := fits_int u3 g1
    obtain ⟨n, rfl, _⟩ := fits_int u3 g2
    obtain ⟨t, rfl, _⟩ := fits_str u9 g3
    obtain ⟨ns, rfl, hns⟩ := strs_of g4
    obtain ⟨tys, rfl, htys⟩ := tys_of g5
    obtain ⟨xs, rfl, _, hxl, hall⟩ := fits_lst u32 g6
    obtain ⟨bs, rfl, _, hbl, hal2⟩ := fits_lst u33 g7
    obtain ⟨w, rfl, _⟩ := fits_int u3 g8
    simp only [List.cons_append, List.nil_append, List.cons.sizeOf_spec] at h
    obtain ⟨ys, h3, o3⟩ := list_of (l := xs.map (pvElem Pr 35)) (f := Ex.enc) (Q := Okx) fun p hp => by
      obtain ⟨x, hx, rfl⟩ := List.mem_map.1 hp
      have := size_mem is35 hx
      obtain ⟨p, hp, ho⟩ := ex_of' N (by omega) (hall x hx)
      exact ⟨p, by rw [elem_struct is35, hp]; rfl, ho⟩
    obtain ⟨zs, h4, o4⟩ := list_of (l := bs.map (pvElem Pr 86)) (f := eArm) (Q := fun x : Pa × Ex => Okp x.1 ∧ Okx x.2) fun p hp => by
      obtain ⟨x, hx, rfl⟩ := List.mem_map.1 hp
      have := size_mem is86 hx
      have hf := hal2 x hx
      obtain ⟨pa, z, rfl, k1, q⟩ := (fits_parts f86 hf).c1
      obtain ⟨pe, z, rfl, k2, q⟩ := q.c1
      obtain rfl := q.c0
      have s1 := size_app pa (pe ++ [])
      rw [List.append_nil] at s1 this
      obtain ⟨p, hp, hop⟩ := pa_of k1
      obtain ⟨e, he, hoe⟩ := ex_of' N (by omega) k2
      exact ⟨(p, e), by rw [elem_struct is86, hp, he, List.append_nil]; rfl, hop, hoe⟩
    have hxy : xs.length = ys.length := by have := congrArg List.length h3; simpa using this
    have hbz : bs.length = zs.length := by have := congrArg List.length h4; simpa using this
    exact ⟨.mk k n t ns tys ys zs w, by rw [ex_cells, h3, h4]; rfl, .mk hns htys (by show ys.length ≤ maxLen; omega) (by show zs.length ≤ maxLen; omega) o3 (fun x hx => (o4 x hx).1) (fun x hx => (o4 x hx).2)⟩
theorem ex_of {pvs : List PV} (h : Fits Pr 35 pvs) : ∃ e : Ex, pvs = e.cells ∧ Okx e := ex_of' _ (Nat.lt_succ_self _) h
theorem fn_of {pvs : List PV} (h : Fits Pr 128 pvs) : ∃ f : Fn, pvElem Pr 128 pvs = f.enc ∧ OkF f := by
  obtain ⟨a, z, rfl, g1, g⟩ := (fits_parts f128 h).c1
  obtain ⟨b, z, rfl, g2, g⟩ := g.c1
  obtain ⟨c, z, rfl, g3, g⟩ := g.c1
  obtain ⟨d, z, rfl, g4, g⟩ := g.c1
  obtain ⟨e, z, rfl, g5, g⟩ := g.c1
  obtain ⟨f, z, rfl, g6, g⟩ := g.c1
  obtain rfl := g.c0
  obtain ⟨nm, rfl, _⟩ := fits_str u9 g1
  obtain ⟨ps, rfl, hps⟩ := strs_of g2
  obtain ⟨ns, rfl, hns⟩ := strs_of g3
  obtain ⟨tys, rfl, htys⟩ := tys_of g4
  obtain ⟨t, rfl, ht⟩ := ty_of g5
  obtain ⟨x, rfl, hx⟩ := ex_of g6
  exact ⟨⟨nm, ps, ns, tys, t, x⟩, by rw [elem_struct is128, ex_cells]; rfl, hps, hns, htys, ht, hx⟩
theorem ac_of {pvs : List PV} (h : Fits Pr 132 pvs) : ∃ a : Ac, pvElem Pr 132 pvs = a.enc ∧ OkA a := by
  obtain ⟨a, z, rfl, g1, g⟩ := (fits_parts f132 h).c1
  obtain ⟨c, z, rfl, g3, g⟩ := g.c1
  obtain ⟨d, z, rfl, g4, g⟩ := g.c1
  obtain ⟨e, z, rfl, g5, g⟩ := g.c1
  obtain ⟨f, z, rfl, g6, g⟩ := g.c1
  obtain rfl := g.c0
  obtain ⟨nm, rfl, _⟩ := fits_str u9 g1
  obtain ⟨ns, rfl, hns⟩ := strs_of g3
  obtain ⟨tys, rfl, htys⟩ := tys_of g4
  obtain ⟨t, rfl, ht⟩ := ty_of g5
  obtain ⟨x, rfl, hx⟩ := ex_of g6
  exact ⟨⟨nm, ns, tys, t, x⟩, by rw [elem_struct is132, ex_cells]; rfl, hns, htys, ht, hx⟩
theorem us_of {pvs : List PV} (h : Fits Pr 111 pvs) : ∃ u : Us, pvElem Pr 111 pvs = u.enc ∧ True := by
  obtain ⟨a, z, rfl, g1, g⟩ := (fits_parts f111 h).c1
  obtain ⟨b, z, rfl, g2, g⟩ := g.c1
  obtain ⟨c, z, rfl, g3, g⟩ := g.c1
  obtain rfl := g.c0
  obtain ⟨nm, rfl, _⟩ := fits_str u9 g1
  obtain ⟨lo, rfl, _⟩ := fits_int u3 g2
  obtain ⟨hi, rfl, _⟩ := fits_int u3 g3
  exact ⟨⟨nm, lo, hi⟩, by rw [elem_struct is111]; rfl, trivial⟩
theorem mk_of {pvs : List PV} (h : Fits Pr 174 pvs) : ∃ m : Mk, pvElem Pr 174 pvs = eM m ∧ OkTs m.2 := by
  obtain ⟨a, z, rfl, g1, g⟩ := (fits_parts f174 h).c1
  obtain ⟨b, z, rfl, g2, g⟩ := g.c1
  obtain rfl := g.c0
  obtain ⟨nm, rfl, _⟩ := fits_str u9 g1
  obtain ⟨tys, rfl, htys⟩ := tys_of g2
  exact ⟨(nm, tys), by rw [elem_struct is174]; rfl, htys⟩
theorem da_of {pvs : List PV} (h : Fits Pr 116 pvs) : ∃ d : Da, pvElem Pr 116 pvs = d.enc ∧ OkD d := by
  obtain ⟨a, z, rfl, g1, g⟩ := (fits_parts f116 h).c1
  obtain ⟨b, z, rfl, g2, g⟩ := g.c1
  obtain ⟨c, z, rfl, g3, g⟩ := g.c1
  obtain rfl := g.c0
  obtain ⟨nm, rfl, _⟩ := fits_str u9 g1
  obtain ⟨ps, rfl, hps⟩ := strs_of g2
  obtain ⟨ms, rfl, hl, _, hms⟩ := lst_of u114 (f := eM) (Q := fun m : Mk => OkTs m.2) (fun _ => mk_of) g3
  exact ⟨⟨nm, ps, ms⟩, by rw [elem_struct is116]; rfl, hps, hl, hms⟩
theorem fns_of {pvs : List PV} (h : Fits Pr 60 pvs) : ∃ fs : List Fn, pvs = [.lst (fs.map Fn.enc)] ∧ OkFs fs ∧ fs.length * 272 ≤ reachBytes := by
  obtain ⟨fs, rfl, hl, hb, hfs⟩ := lst_of u60 (f := Fn.enc) (Q := OkF) (fun _ => fn_of) h
  rw [by128] at hb
  exact ⟨fs, rfl, ⟨hl, hfs⟩, hb⟩
theorem tr_of {pvs : List PV} (h : Fits Pr 120 pvs) : ∃ t : Tr, pvElem Pr 120 pvs = eT t ∧ OkFs t.2 := by
  obtain ⟨a, z, rfl, g1, g⟩ := (fits_parts f120 h).c1
  obtain ⟨b, z, rfl, g2, g⟩ := g.c1
  obtain rfl := g.c0
  obtain ⟨nm, rfl, _⟩ := fits_str u9 g1
  obtain ⟨fs, rfl, hfs, _⟩ := fns_of g2
  exact ⟨(nm, fs), by rw [elem_struct is120]; rfl, hfs⟩
theorem im_of {pvs : List PV} (h : Fits Pr 124 pvs) : ∃ m : Im, pvElem Pr 124 pvs = m.enc ∧ OkFs m.funs := by
  obtain ⟨a, z, rfl, g1, g⟩ := (fits_parts f124 h).c1
  obtain ⟨c, z, rfl, g3, g⟩ := g.c1
  obtain ⟨b, z, rfl, g2, g⟩ := g.c1
  obtain rfl := g.c0
  obtain ⟨nm, rfl, _⟩ := fits_str u9 g1
  obtain ⟨ty, rfl, _⟩ := fits_str u9 g3
  obtain ⟨fs, rfl, hfs, _⟩ := fns_of g2
  exact ⟨⟨nm, ty, fs⟩, by rw [elem_struct is124]; rfl, hfs⟩
theorem pg_of {pvs : List PV} (h : Fits Pr 63 pvs) : ∃ p : Pg, pvElem Pr 63 pvs = p.enc ∧ OkPg p ∧ Bytes p := by
  obtain ⟨a0, b, rfl, h0, h⟩ := (fits_parts f63 h).c1
  obtain ⟨a1, b, rfl, h1, h⟩ := h.c1
  obtain ⟨a2, b, rfl, h2, h⟩ := h.c1
  obtain ⟨a3, b, rfl, h3, h⟩ := h.c1
  obtain ⟨a4, b, rfl, h4, h⟩ := h.c1
  obtain ⟨a5, b, rfl, h5, h⟩ := h.c1
  obtain ⟨a6, b, rfl, h6, h⟩ := h.c1
  obtain ⟨a7, b, rfl, h7, h⟩ := h.c1
  obtain rfl := h.c0
  obtain ⟨nm, rfl, _⟩ := fits_str u9 h0
  obtain ⟨ver, rfl, _⟩ := fits_int u3 h1
  obtain ⟨us, rfl, l2, b2, _⟩ := lst_of u56 (f := Us.enc) (Q := fun _ => True) (fun _ => us_of) h2
  obtain ⟨ds, rfl, l3, b3, q3⟩ := lst_of u57 (f := Da.enc) (Q := OkD) (fun _ => da_of) h3
  obtain ⟨ts, rfl, l4, b4, q4⟩ := lst_of u58 (f := eT) (Q := fun t : Tr => OkFs t.2) (fun _ => tr_of) h4
  obtain ⟨ms, rfl, l5, b5, q5⟩ := lst_of u59 (f := Im.enc) (Q := fun m : Im => OkFs m.funs) (fun _ => im_of) h5
  obtain ⟨fs, rfl, q6, b6⟩ := fns_of h6
  obtain ⟨ac, rfl, l7, b7, q7⟩ := lst_of u61 (f := Ac.enc) (Q := OkA) (fun _ => ac_of) h7
  rw [by111] at b2
  rw [by116] at b3
  rw [by120] at b4
  rw [by124] at b5
  rw [by132] at b7
  exact ⟨⟨nm, ver, us, ds, ts, ms, fs, ac⟩, by rw [elem_struct is63]; rfl, ⟨l2, l3, l4, l5, q6.1, l7, q3, q4, q5, q6.2, q7⟩, ⟨b2, b3, b4, b5, b6, b7⟩⟩
theorem args_law : ∀ ps, ArgsFit Pr [63, 3] ps → AL.V Pr T 8 (ps.map .pv) = some (.pv (.bool true), []) := by
  intro ps h
  cases h with | cons a0 h =>
  cases h with | cons a1 h =>
  cases h
  obtain ⟨p, e0, hp, hb⟩ := pg_of a0
  obtain ⟨n, e1, _⟩ := elem_int u3 a1
  simp only [List.map_cons, List.map_nil, e0, e1]
  exact Go.AL.S6.law8 hp hb n

end Go.AL.S6.treeLess
namespace Go.Proofs.Ytlmodlihiglnhaa.treeLess
open Go.ChangeShapes Go.WideShapes Go.ChangeAt Go.RowKit
theorem own : ownKnob Try.prog.godebug = none := by kernel_rfl
def nilS : Value := .slice none 0 0
set_option maxRecDepth 100000 in
theorem lifted (os : Os) (started : os.Started) (H : Type) (enc : TypeId × Value → H) :
    ReturnsInHanded {} Try.checked os 8 .any (Rows.treeLessSpec.pre6 enc Try.prog Try.f8 Rows.treeLessRow.domain false) (Rows.treeLessSpec.post enc Try.prog Try.f8 false true false false) := by
  refine returnsInHanded_of_change_sized (C := Try.checked) own started (by kernel_rfl) Try.func8
    (ChangeSpec.witness6 (enc := enc) (C := Try.checked) false ⟨#[], #[.agg #[.string ByteArray.empty, .int .i64 0, nilS, nilS, nilS, nilS, nilS, nilS], .int .i64 0], []⟩ 8 (by kernel_rfl) (by kernel_rfl) (by kernel_rfl) (by kernel_rfl)) ?_
  intro W base args ds gs before hval0 hW hcnd hsz0 _
  have hW' := hW
  obtain ⟨p, q, hA0, hV, rfl, hfz, hnd⟩ := hW
  have hA : DataW.TrodAll enc Try.prog W 0 (fun _ => true) true Try.f8.params.toList args.toList ds p := hA0
  obtain ⟨rfl, rfl⟩ := trodVars_none hV
  have hsz : (DataW.weightsEach Try.prog (Try.f8.params.toList ++ []) (ds ++ [])).all (· ≤ reachBytes) = true := hsz0
  rw [List.append_nil, List.append_nil] at hsz
  rw [Try.params8] at hA hval0 hsz
  refine (Go.AL.law_callsV Go.AL.S6.pa Go.AL.S6.snd Go.AL.S6.treeLess.closed (f := 8) (ts := [63, 3]) (by kernel_rfl) hA (fun j t v e1 e2 => hval0 j t v (by simpa using e1) e2) hsz Go.AL.S6.treeLess.args_law).mono fun e W' ⟨he, bel, hpost⟩ => ?_
  subst he
  have hlen : ∀ {ts : List TypeId} {vs : List Value} {ds : List (DataW H)} {p : List MemPlace}, DataW.TrodAll enc Try.prog W 0 (fun _ => true) true ts vs ds p → ds.length = ts.length := by
    intro ts
    induction ts with
    | nil => intro vs ds p h; cases vs <;> cases ds <;> first | rfl | exact h.elim
    | cons t ts ih => intro vs ds p h; cases vs <;> cases ds <;> first | exact h.elim | (obtain ⟨_, _, _, h2, _⟩ := h; simp [ih h2])
  have hl : ds.length = 2 := hlen hA
  obtain ⟨d1, d2, rfl⟩ : ∃ d1 d2, ds = [d1, d2] := by
    match ds, hl with
    | [d1, d2], _ => exact ⟨d1, d2, rfl⟩
  exact ⟨_, rfl, _, _, _, [], _, [], hW', trodAll_mk1 (shut_bool Try.underlying4 _), (by rw [Try.params8]; exact hpost), rfl, bel.frame _, fun h => by cases h⟩
theorem over : Rows.treeLessRow.holds Try.pinned (OpenSpec.ofChange Rows.treeLessSpec) :=
  OpenClaim.holds_of_wide 8 Try.f8 rfl rfl rfl rfl rfl rfl rfl ⟨rfl, rfl, rfl, rfl, rfl⟩ rfl rfl rfl rfl rfl (by kernel_rfl) Try.func8 (by kernel_rfl)
    (of_decide_eq_true (by kernel_rfl)) (by unfold Func.isWrapper; first | (rw [if_pos (by decide +kernel)]; kernel_rfl) | (rw [if_neg (by decide +kernel)]; exact ⟨rfl, rfl⟩))
    (fun os started H enc _ => lifted os started H enc)
theorem proved : Rows.TreeLessSaid := over
end Go.Proofs.Ytlmodlihiglnhaa.treeLess
namespace Go.Proofs.Ytlmodlihiglnhaa
/-- The row, under a short name. -/
theorem treeLess_holds : Rows.TreeLessSaid := treeLess.proved
end Go.Proofs.Ytlmodlihiglnhaa
#print axioms Go.Proofs.Ytlmodlihiglnhaa.treeLess_holds
