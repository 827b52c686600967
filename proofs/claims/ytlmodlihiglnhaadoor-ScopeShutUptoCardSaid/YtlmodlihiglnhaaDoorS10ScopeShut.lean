/- ScopeShut: the row. -/
import Derived.Test.YtlmodlihiglnhaaDoorS10Law8
import Derived.Test.YtlmodlihiglnhaaDoorS10Ok
import Derived.Test.YtlmodlihiglnhaaDoorAL4
import Derived.Test.YtlmodlihiglnhaaDoorCards
import Derived.Test.YtlmodlihiglnhaaDoorTie
import Derived.LaidMore
import Derived.Lay
import Derived.Lib.LaidTab
import Derived.MakeChecks
import Derived.Stop.Joined
import Derived.Deep.DeepHandedRow
import Derived.WalkKit
import Derived.ProofKit
import Derived.OpenShut
import Derived.ShutString
import Derived.ChangeOld
import Derived.Below
import Derived.SizedLaws
import Derived.JoinedCond
import Derived.Deep.CondSized
set_option linter.unusedVariables false
set_option linter.unusedSimpArgs false
namespace Go.AL.S10.scopeShut
open Go Go.AL Go.AL.S10
def S : List TypeId := [64, 9, 3, 58, 107, 59, 110, 22, 108, 113, 23, 25, 60, 116, 62, 118, 54, 51, 52, 127, 125, 123, 61, 121, 57, 56]
theorem closed : closedT Pr S = true := by kernel_rfl
theorem f64 : ftypes Pr 64 = some [9, 3, 58, 59, 60, 61, 62, 57] := by kernel_rfl
theorem is64 : isStruct Pr 64 = true := by kernel_rfl
theorem u9 : Pr.underlying 9 = some .string := by kernel_rfl
theorem u3 : Pr.underlying 3 = some (.int .i64) := by kernel_rfl
theorem u58 : Pr.underlying 58 = some (.slice 107) := by kernel_rfl
theorem by107 : Pr.bytesOf 107 = 32 := by kernel_rfl
theorem f107 : ftypes Pr 107 = some [9, 3, 3] := by kernel_rfl
theorem is107 : isStruct Pr 107 = true := by kernel_rfl
theorem u59 : Pr.underlying 59 = some (.slice 110) := by kernel_rfl
theorem by110 : Pr.bytesOf 110 = 64 := by kernel_rfl
theorem f110 : ftypes Pr 110 = some [9, 22, 108] := by kernel_rfl
theorem is110 : isStruct Pr 110 = true := by kernel_rfl
theorem u22 : Pr.underlying 22 = some (.slice 9) := by kernel_rfl
theorem by9 : Pr.bytesOf 9 = 16 := by kernel_rfl
theorem u108 : Pr.underlying 108 = some (.slice 113) := by kernel_rfl
theorem by113 : Pr.bytesOf 113 = 40 := by kernel_rfl
theorem f113 : ftypes Pr 113 = some [9, 23] := by kernel_rfl
theorem is113 : isStruct Pr 113 = true := by kernel_rfl
theorem u23 : Pr.underlying 23 = some (.slice 25) := by kernel_rfl
theorem by25 : Pr.bytesOf 25 = 48 := by kernel_rfl
theorem f25 : ftypes Pr 25 = some [3, 9, 23] := by kernel_rfl
theorem is25 : isStruct Pr 25 = true := by kernel_rfl
theorem u60 : Pr.underlying 60 = some (.slice 116) := by kernel_rfl
theorem by116 : Pr.bytesOf 116 = 40 := by kernel_rfl
theorem f116 : ftypes Pr 116 = some [9, 62] := by kernel_rfl
theorem is116 : isStruct Pr 116 = true := by kernel_rfl
theorem u62 : Pr.underlying 62 = some (.slice 118) := by kernel_rfl
theorem by118 : Pr.bytesOf 118 = 272 := by kernel_rfl
theorem f118 : ftypes Pr 118 = some [9, 22, 22, 23, 25, 54] := by kernel_rfl
theorem is118 : isStruct Pr 118 = true := by kernel_rfl
theorem f54 : ftypes Pr 54 = some [3, 3, 9, 22, 23, 51, 52, 3] := by kernel_rfl
theorem is54 : isStruct Pr 54 = true := by kernel_rfl
theorem u51 : Pr.underlying 51 = some (.slice 54) := by kernel_rfl
theorem by54 : Pr.bytesOf 54 = 136 := by kernel_rfl
theorem u52 : Pr.underlying 52 = some (.slice 127) := by kernel_rfl
theorem by127 : Pr.bytesOf 127 = 192 := by kernel_rfl
theorem f127 : ftypes Pr 127 = some [125, 54] := by kernel_rfl
theorem is127 : isStruct Pr 127 = true := by kernel_rfl
theorem f125 : ftypes Pr 125 = some [3, 3, 9, 123] := by kernel_rfl
theorem is125 : isStruct Pr 125 = true := by kernel_rfl
theorem u123 : Pr.underlying 123 = some (.slice 125) := by kernel_rfl
theorem by125 : Pr.bytesOf 125 = 56 := by kernel_rfl
theorem u61 : Pr.underlying 61 = some (.slice 121) := by kernel_rfl
theorem by121 : Pr.bytesOf 121 = 56 := by kernel_rfl
theorem f121 : ftypes Pr 121 = some [9, 9, 62] := by kernel_rfl
theorem is121 : isStruct Pr 121 = true := by kernel_rfl
theorem u57 : Pr.underlying 57 = some (.slice 56) := by kernel_rfl
theorem by56 : Pr.bytesOf 56 = 248 := by kernel_rfl
theorem f56 : ftypes Pr 56 = some [9, 22, 23, 25, 54] := by kernel_rfl
theorem is56 : isStruct Pr 56 = true := by kernel_rfl
theorem reach : reachBytes = 140737488351232 := rfl
theorem r64 {n : Int} (h : (Lit.int .i64 n).wf = true) : R64 n := by
  unfold R64
  have h1 : IntKind.i64.min ≤ n ∧ n ≤ 9223372036854775807 := by simpa [Lit.wf] using h
  exact h1
theorem ty_of' : ∀ (N : Nat) {pvs : List PV}, SizeOf.sizeOf pvs < N → Fits Pr 25 pvs → ∃ ty, pvElem Pr 25 pvs = Ty.enc ty ∧ Okt ty
  | 0, pvs, h, _ => absurd h (Nat.not_lt_zero _)
  | N + 1, pvs, h, hf => by
    obtain ⟨a, b, rfl, g1, g⟩ := (fits_parts f25 hf).c1
    obtain ⟨c, d, rfl, g2, g⟩ := g.c1
    obtain ⟨e, z, rfl, g3, g⟩ := g.c1
    obtain rfl := g.c0
    obtain ⟨k, rfl, wk⟩ := fits_int u3 g1
    obtain ⟨nm, rfl, _⟩ := fits_str u9 g2
    obtain ⟨xs, rfl, hb, hlen, hall⟩ := fits_lst u23 g3
    have hx : ∀ x, x ∈ xs → ∃ ty, pvElem Pr 25 x = Ty.enc ty ∧ Okt ty := fun x hx => by
      refine ty_of' N ?_ (hall x hx)
      have h1 : SizeOf.sizeOf (pvElem Pr 25 x) < SizeOf.sizeOf (xs.map (pvElem Pr 25)) := List.sizeOf_lt_of_mem (List.mem_map.2 ⟨x, hx, rfl⟩)
      rw [elem_struct is25, PV.agg.sizeOf_spec] at h1
      simp only [List.cons_append, List.nil_append, List.cons.sizeOf_spec, PV.lst.sizeOf_spec] at h
      omega
    obtain ⟨ys, h3, h4⟩ := list_of (l := xs.map (pvElem Pr 25)) (f := Ty.enc) (Q := Okt) fun p hp => by
      obtain ⟨x, hx', rfl⟩ := List.mem_map.1 hp
      exact hx x hx'
    rw [by25] at hb
    have hxy : xs.length = ys.length := by have := congrArg List.length h3; simpa using this
    refine ⟨.mk k nm ys, ?_, .mk (r64 wk) (by omega) (by rw [← hxy]; exact hb) h4⟩
    rw [elem_struct is25, enc_mk, h3]
    rfl
theorem ty_of {pvs : List PV} (h : Fits Pr 25 pvs) : ∃ ty : Ty, pvs = [.int .i64 ty.kind, .str ty.name, .lst (ty.args.map Ty.enc)] ∧ Okt ty := by
  obtain ⟨ty, e, ho⟩ := ty_of' _ (Nat.lt_succ_self _) h
  refine ⟨ty, ?_, ho⟩
  rw [elem_struct is25] at e
  obtain ⟨k, n, a⟩ := ty
  rw [enc_mk] at e
  exact PV.agg.inj e
theorem str_of {pvs : List PV} (h : Fits Pr 9 pvs) : ∃ s : Str, pvElem Pr 9 pvs = .str s ∧ True := by
  obtain ⟨s, e, _⟩ := elem_str u9 h
  exact ⟨s, e, trivial⟩
theorem strs_of {pvs : List PV} (h : Fits Pr 22 pvs) : ∃ xs : List Str, pvs = [.lst (xs.map .str)] ∧ xs.length ≤ maxLen := by
  obtain ⟨xs, e, hl, _⟩ := lst_of u22 (f := PV.str) (Q := fun _ => True) (fun _ => str_of) h
  exact ⟨xs, e, hl⟩
theorem tys_of {pvs : List PV} (h : Fits Pr 23 pvs) : ∃ l, pvs = [.lst l] ∧ OkTs l := by
  obtain ⟨xs, e, hl, hb, h3⟩ := lst_of u23 (f := Ty.enc) (Q := Okt) (fun _ h => ty_of' _ (Nat.lt_succ_self _) h) h
  rw [by25] at hb
  exact ⟨_, e, xs, rfl, hb, hl, h3⟩
theorem size_app (a b : List PV) : SizeOf.sizeOf b ≤ SizeOf.sizeOf (a ++ b) := by
  induction a with
  | nil => simp
  | cons x a ih => simp only [List.cons_append, List.cons.sizeOf_spec]; omega
theorem size_mem {e : TypeId} (is : isStruct Pr e = true) {xs : List (List PV)} {x : List PV} (hx : x ∈ xs) : SizeOf.sizeOf x + 1 < SizeOf.sizeOf (PV.lst (xs.map (pvElem Pr e))) := by
  have h1 : SizeOf.sizeOf (pvElem Pr e x) < SizeOf.sizeOf (xs.map (pvElem Pr e)) := List.sizeOf_lt_of_mem (List.mem_map.2 ⟨x, hx, rfl⟩)
  rw [elem_struct is, PV.agg.sizeOf_spec] at h1
  simp only [PV.lst.sizeOf_spec]
  omega
theorem pa_of' : ∀ (N : Nat) {pvs : List PV}, SizeOf.sizeOf pvs < N → Fits Pr 125 pvs → ∃ p : Pa, pvs = p.cells ∧ Okp p
  | 0, pvs, h, _ => absurd h (Nat.not_lt_zero _)
  | N + 1, pvs, h, hf => by
    obtain ⟨a, z, rfl, g1, g⟩ := (fits_parts f125 hf).c1
    obtain ⟨b, z, rfl, g2, g⟩ := g.c1
    obtain ⟨c, z, rfl, g3, g⟩ := g.c1
    obtain ⟨d, z, rfl, g4, g⟩ := g.c1
    obtain rfl := g.c0
    obtain ⟨k, rfl, wk⟩ := fits_int u3 g1
    obtain ⟨n, rfl, wn⟩ := fits_int u3 g2
    obtain ⟨t, rfl, _⟩ := fits_str u9 g3
    obtain ⟨xs, rfl, _, hlen, hall⟩ := fits_lst u123 g4
    simp only [List.cons_append, List.nil_append, List.cons.sizeOf_spec] at h
    obtain ⟨ys, h3, h4⟩ := list_of (l := xs.map (pvElem Pr 125)) (f := Pa.enc) (Q := Okp) fun p hp => by
      obtain ⟨x, hx, rfl⟩ := List.mem_map.1 hp
      have := size_mem is125 hx
      obtain ⟨p, hp, ho⟩ := pa_of' N (by omega) (hall x hx)
      exact ⟨p, by rw [elem_struct is125, hp]; rfl, ho⟩
    have hxy : xs.length = ys.length := by have := congrArg List.length h3; simpa using this
    exact ⟨.mk k n t ys, by rw [pa_cells, h3]; rfl, .mk (r64 wk) (r64 wn) (by show ys.length ≤ maxLen; omega) h4⟩
theorem pa_of {pvs : List PV} (h : Fits Pr 125 pvs) : ∃ p : Pa, pvs = p.cells ∧ Okp p := pa_of' _ (Nat.lt_succ_self _) h
theorem ex_of' : ∀ (N : Nat) {pvs : List PV}, SizeOf.sizeOf pvs < N → Fits Pr 54 pvs → ∃ e : Ex, pvs = e.cells ∧ Okx e
  | 0, pvs, h, _ => absurd h (Nat.not_lt_zero _)
  | N + 1, pvs, h, hf => by
    obtain ⟨a, z, rfl, g1, g⟩ := (fits_parts f54 hf).c1
    obtain ⟨b, z, rfl, g2, g⟩ := g.c1
    obtain ⟨c, z, rfl, g3, g⟩ := g.c1
    obtain ⟨d, z, rfl, g4, g⟩ := g.c1
    obtain ⟨e, z, rfl, g5, g⟩ := g.c1
    obtain ⟨f, z, rfl, g6, g⟩ := g.c1
    obtain ⟨i, z, rfl, g7, g⟩ := g.c1
    obtain ⟨j, z, rfl, g8, g⟩ := g.c1
    obtain rfl := g.c0
    obtain ⟨k, rfl, wk⟩ := fits_int u3 g1
    obtain ⟨n, rfl, wn⟩ := fits_int u3 g2
    obtain ⟨t, rfl, _⟩ := fits_str u9 g3
    obtain ⟨ns, rfl, hns⟩ := strs_of g4
    obtain ⟨tys, rfl, htys⟩ := tys_of g5
    obtain ⟨xs, rfl, _, hxl, hall⟩ := fits_lst u51 g6
    obtain ⟨bs, rfl, _, hbl, hal2⟩ := fits_lst u52 g7
    obtain ⟨w, rfl, _⟩ := fits_int u3 g8
    simp only [List.cons_append, List.nil_append, List.cons.sizeOf_spec] at h
    obtain ⟨ys, h3, o3⟩ := list_of (l := xs.map (pvElem Pr 54)) (f := Ex.enc) (Q := Okx) fun p hp => by
      obtain ⟨x, hx, rfl⟩ := List.mem_map.1 hp
      have := size_mem is54 hx
      obtain ⟨p, hp, ho⟩ := ex_of' N (by omega) (hall x hx)
      exact ⟨p, by rw [elem_struct is54, hp]; rfl, ho⟩
    obtain ⟨zs, h4, o4⟩ := list_of (l := bs.map (pvElem Pr 127)) (f := eArm) (Q := fun x : Pa × Ex => Okp x.1 ∧ Okx x.2) fun p hp => by
      obtain ⟨x, hx, rfl⟩ := List.mem_map.1 hp
      have := size_mem is127 hx
      have hf := hal2 x hx
      obtain ⟨pa, z, rfl, k1, q⟩ := (fits_parts f127 hf).c1
      obtain ⟨pe, z, rfl, k2, q⟩ := q.c1
      obtain rfl := q.c0
      have s1 := size_app pa (pe ++ [])
      rw [List.append_nil] at s1 this
      obtain ⟨p, hp, hop⟩ := pa_of k1
      obtain ⟨e, he, hoe⟩ := ex_of' N (by omega) k2
      exact ⟨(p, e), by rw [elem_struct is127, hp, he, List.append_nil]; rfl, hop, hoe⟩
    have hxy : xs.length = ys.length := by have := congrArg List.length h3; simpa using this
    have hbz : bs.length = zs.length := by have := congrArg List.length h4; simpa using this
    exact ⟨.mk k n t ns tys ys zs w, by rw [ex_cells, h3, h4]; rfl, .mk (r64 wk) (r64 wn) hns htys (by show ys.length ≤ maxLen; omega) (by show zs.length ≤ maxLen; omega) o3 (fun x hx => (o4 x hx).1) (fun x hx => (o4 x hx).2)⟩
theorem ex_of {pvs : List PV} (h : Fits Pr 54 pvs) : ∃ e : Ex, pvs = e.cells ∧ Okx e := ex_of' _ (Nat.lt_succ_self _) h
open Go.AL.S10.Sc
theorem fn_of {pvs : List PV} (h : Fits Pr 118 pvs) : ∃ f : Fu, pvElem Pr 118 pvs = eFu f ∧ OkF f := by
  obtain ⟨a, z, rfl, g1, g⟩ := (fits_parts f118 h).c1
  obtain ⟨b, z, rfl, g2, g⟩ := g.c1
  obtain ⟨c, z, rfl, g3, g⟩ := g.c1
  obtain ⟨d, z, rfl, g4, g⟩ := g.c1
  obtain ⟨e, z, rfl, g5, g⟩ := g.c1
  obtain ⟨f, z, rfl, g6, g⟩ := g.c1
  obtain rfl := g.c0
  obtain ⟨nm, rfl, _⟩ := fits_str u9 g1
  obtain ⟨ps, rfl, hps⟩ := strs_of g2
  obtain ⟨ns, rfl, hns⟩ := strs_of g3
  obtain ⟨tys, rfl, htys⟩ := tys_of g4
  obtain ⟨t, rfl, ht⟩ := ty_of g5
  obtain ⟨x, rfl, hx⟩ := ex_of g6
  exact ⟨⟨nm, ps, ns, tys, t, x⟩, by rw [elem_struct is118, List.append_nil]; rfl, hps, hns, htys, ht, hx⟩
theorem ac_of {pvs : List PV} (h : Fits Pr 56 pvs) : ∃ a : Ac, pvElem Pr 56 pvs = eAc a ∧ OkA a := by
  obtain ⟨a, z, rfl, g1, g⟩ := (fits_parts f56 h).c1
  obtain ⟨c, z, rfl, g3, g⟩ := g.c1
  obtain ⟨d, z, rfl, g4, g⟩ := g.c1
  obtain ⟨e, z, rfl, g5, g⟩ := g.c1
  obtain ⟨f, z, rfl, g6, g⟩ := g.c1
  obtain rfl := g.c0
  obtain ⟨nm, rfl, _⟩ := fits_str u9 g1
  obtain ⟨ns, rfl, hns⟩ := strs_of g3
  obtain ⟨tys, rfl, htys⟩ := tys_of g4
  obtain ⟨t, rfl, ht⟩ := ty_of g5
  obtain ⟨x, rfl, hx⟩ := ex_of g6
  exact ⟨⟨nm, ns, tys, t, x⟩, by rw [elem_struct is56, List.append_nil]; rfl, hns, htys, ht, hx⟩
theorem us_of {pvs : List PV} (h : Fits Pr 107 pvs) : ∃ u : Us, pvElem Pr 107 pvs = eUs u ∧ True := by
  obtain ⟨a, z, rfl, g1, g⟩ := (fits_parts f107 h).c1
  obtain ⟨b, z, rfl, g2, g⟩ := g.c1
  obtain ⟨c, z, rfl, g3, g⟩ := g.c1
  obtain rfl := g.c0
  obtain ⟨nm, rfl, _⟩ := fits_str u9 g1
  obtain ⟨lo, rfl, _⟩ := fits_int u3 g2
  obtain ⟨hi, rfl, _⟩ := fits_int u3 g3
  exact ⟨(nm, lo, hi), by rw [elem_struct is107]; rfl, trivial⟩
theorem mk_of {pvs : List PV} (h : Fits Pr 113 pvs) : ∃ m : Mk, pvElem Pr 113 pvs = eMk m ∧ OkTs m.2 := by
  obtain ⟨a, z, rfl, g1, g⟩ := (fits_parts f113 h).c1
  obtain ⟨b, z, rfl, g2, g⟩ := g.c1
  obtain rfl := g.c0
  obtain ⟨nm, rfl, _⟩ := fits_str u9 g1
  obtain ⟨tys, rfl, htys⟩ := tys_of g2
  exact ⟨(nm, tys), by rw [elem_struct is113]; rfl, htys⟩
theorem da_of {pvs : List PV} (h : Fits Pr 110 pvs) : ∃ d : Dt, pvElem Pr 110 pvs = eDt d ∧ (d.2.1.length ≤ maxLen ∧ ∀ m : Mk, m ∈ d.2.2 → OkTs m.2) := by
  obtain ⟨a, z, rfl, g1, g⟩ := (fits_parts f110 h).c1
  obtain ⟨b, z, rfl, g2, g⟩ := g.c1
  obtain ⟨c, z, rfl, g3, g⟩ := g.c1
  obtain rfl := g.c0
  obtain ⟨nm, rfl, _⟩ := fits_str u9 g1
  obtain ⟨ps, rfl, hps⟩ := strs_of g2
  obtain ⟨ms, rfl, hl, _, hms⟩ := lst_of u108 (f := eMk) (Q := fun m : Mk => OkTs m.2) (fun _ => mk_of) g3
  exact ⟨(nm, ps, ms), by rw [elem_struct is110]; rfl, hps, hms⟩
theorem fns_of {pvs : List PV} (h : Fits Pr 62 pvs) : ∃ fs : List Fu, pvs = [.lst (fs.map eFu)] ∧ ∀ f, f ∈ fs → OkF f := by
  obtain ⟨fs, rfl, _, _, hfs⟩ := lst_of u62 (f := eFu) (Q := OkF) (fun _ => fn_of) h
  exact ⟨fs, rfl, hfs⟩
theorem tr_of {pvs : List PV} (h : Fits Pr 116 pvs) : ∃ t : Tr, pvElem Pr 116 pvs = eTr t ∧ ∀ f, f ∈ t.2 → OkF f := by
  obtain ⟨a, z, rfl, g1, g⟩ := (fits_parts f116 h).c1
  obtain ⟨b, z, rfl, g2, g⟩ := g.c1
  obtain rfl := g.c0
  obtain ⟨nm, rfl, _⟩ := fits_str u9 g1
  obtain ⟨fs, rfl, hfs⟩ := fns_of g2
  exact ⟨(nm, fs), by rw [elem_struct is116]; rfl, hfs⟩
theorem im_of {pvs : List PV} (h : Fits Pr 121 pvs) : ∃ m : Im, pvElem Pr 121 pvs = eIm m ∧ ∀ f, f ∈ m.2.2 → OkF f := by
  obtain ⟨a, z, rfl, g1, g⟩ := (fits_parts f121 h).c1
  obtain ⟨c, z, rfl, g3, g⟩ := g.c1
  obtain ⟨b, z, rfl, g2, g⟩ := g.c1
  obtain rfl := g.c0
  obtain ⟨nm, rfl, _⟩ := fits_str u9 g1
  obtain ⟨ty, rfl, _⟩ := fits_str u9 g3
  obtain ⟨fs, rfl, hfs⟩ := fns_of g2
  exact ⟨(nm, ty, fs), by rw [elem_struct is121]; rfl, hfs⟩
theorem pg_of {pvs : List PV} (h : Fits Pr 64 pvs) : ∃ p : Pq, pvElem Pr 64 pvs = p.enc ∧ OkPq p := by
  obtain ⟨a0, b, rfl, h0, h⟩ := (fits_parts f64 h).c1
  obtain ⟨a1, b, rfl, h1, h⟩ := h.c1
  obtain ⟨a2, b, rfl, h2, h⟩ := h.c1
  obtain ⟨a3, b, rfl, h3, h⟩ := h.c1
  obtain ⟨a4, b, rfl, h4, h⟩ := h.c1
  obtain ⟨a5, b, rfl, h5, h⟩ := h.c1
  obtain ⟨a6, b, rfl, h6, h⟩ := h.c1
  obtain ⟨a7, b, rfl, h7, h⟩ := h.c1
  obtain rfl := h.c0
  obtain ⟨nm, rfl, _⟩ := fits_str u9 h0
  obtain ⟨ver, rfl, _⟩ := fits_int u3 h1
  obtain ⟨us, rfl, _, _, _⟩ := lst_of u58 (f := eUs) (Q := fun _ => True) (fun _ => us_of) h2
  obtain ⟨ds, rfl, _, _, q3⟩ := lst_of u59 (f := eDt) (Q := fun d : Dt => d.2.1.length ≤ maxLen ∧ ∀ m : Mk, m ∈ d.2.2 → OkTs m.2) (fun _ => da_of) h3
  obtain ⟨ts, rfl, _, _, q4⟩ := lst_of u60 (f := eTr) (Q := fun t : Tr => ∀ f, f ∈ t.2 → OkF f) (fun _ => tr_of) h4
  obtain ⟨ms, rfl, _, _, q5⟩ := lst_of u61 (f := eIm) (Q := fun m : Im => ∀ f, f ∈ m.2.2 → OkF f) (fun _ => im_of) h5
  obtain ⟨fs, rfl, q6⟩ := fns_of h6
  obtain ⟨ac, rfl, _, _, q7⟩ := lst_of u57 (f := eAc) (Q := OkA) (fun _ => ac_of) h7
  exact ⟨⟨nm, ver, us, ds, ts, ms, fs, ac⟩, by rw [elem_struct is64]; rfl, q3, q4, q5, q6, q7⟩
theorem strE {pvs : List PV} (h : Fits Pr 22 pvs) : ∃ xs : List Str, pvElem Pr 22 pvs = .lst (xs.map .str) ∧ True := by
  obtain ⟨xs, rfl, _⟩ := strs_of h
  exact ⟨xs, by kernel_rfl, trivial⟩
theorem args_law : ∀ ps, ArgsFit Pr [64, 22] ps → bkL ps ≤ 1048576 → AL.V Pr T 8 (ps.map .pv) = some (.pv (.bool true), []) := by
  intro ps h hb
  cases h with | cons a0 h =>
  cases h with | cons a1 h =>
  cases h
  obtain ⟨p, e0, hp⟩ := pg_of a0
  obtain ⟨l, e1, _⟩ := strE a1
  simp only [List.map_cons, List.map_nil, e0, e1, bkL, bk] at hb ⊢
  have h1 := len_map PV.str l
  exact law8 hp (by simp only [BIG]; omega) (by simp only [BIG]; omega)

end Go.AL.S10.scopeShut
namespace Go.Proofs.YtlmodlihiglnhaaDoor.scopeShut
open Go.ChangeShapes Go.WideShapes Go.ChangeAt Go.RowKit
theorem own : ownKnob Tryd.prog.godebug = none := by kernel_rfl
theorem bulkAll {H : Type} (l : List (DataW H)) : Rows.uptoBulkAll l = (l.map Rows.uptoBulk).sum := by
  induction l with
  | nil => simp [Rows.uptoBulkAll]
  | cons d l ih => simp [Rows.uptoBulkAll, ih]
theorem bulky {H : Type} : Go.AL.Bulky (Rows.uptoBulk : DataW H → Nat) := by
  refine ⟨fun b => ?_, fun d => ?_, fun d => ?_, fun e s => ?_, fun ps => ?_⟩
  · simp [Rows.uptoBulk]
  · cases d with
    | lit l => cases l <;> simp [Rows.uptoBulk]
    | _ => simp [Rows.uptoBulk]
  · simp [Rows.uptoBulk]
  · simp [Rows.uptoBulk, bulkAll]
  · simp [Rows.uptoBulk, bulkAll]
def nilS : Value := .slice none 0 0
def laid3 : List (String × DataW Unit) := [("math/bits.deBruijn32tab", Rows.laid_math_bits_deBruijn32tab), ("math/bits.deBruijn64tab", Rows.laid_math_bits_deBruijn64tab), ("internal/strconv.uint64pow10", Rows.laid_internal_strconv_uint64pow10), ("unicode/utf8.acceptRanges", Rows.laid_unicode_utf8_acceptRanges), ("unicode.White_Space", Rows.laid_unicode_White_Space), ("strings.asciiSpace", Rows.laid_strings_asciiSpace), ("unicode/utf8.first", Rows.laid_unicode_utf8_first)]
/-- A table that is laid lies so in its block. -/
theorem tab_in {P : Program} {W : World} {name : String} {k : IntKind} {zs : List Int} {l : List (String × DataW Unit)} {g : Nat} {t e : TypeId} {n : Nat} (hg : P.globalNamed name = some g) (hty : (P.globals[g]?).map (·.type) = some t) (ht : P.underlying t = some (.array n e)) (he : P.underlying e = some (.int k)) (hce : P.cellsOf e = 1) (hct : P.cellsOf t = n) (hne : 0 < zs.length)
    (hm : (name, Lib.tabData k zs) ∈ l) (h : laidMet P l W) : ∃ T, W.heap[g]? = some (.cells (zs.map fun z => Value.int k z).toArray T (0, 0)) := by
  obtain ⟨ps, h, _, hp⟩ := h
  have key : ∀ {l : List (String × DataW Unit)} {ps : List MemPlace}, DataW.LaidVars P W l ps → (name, Lib.tabData k zs) ∈ l → W.var? P name = some (zs.map fun z => Value.int k z).toArray ∧ MemPlace.cell g 0 ∈ ps := by
    intro l
    induction l with
    | nil => intro ps _ hm; cases hm
    | cons x l ih =>
      intro ps h hm
      obtain ⟨m, d⟩ := x
      obtain ⟨g', t', cs, fuel, p, q, hg', ht', hvar, hd, h2, rfl⟩ := h
      rcases List.mem_cons.1 hm with e1 | hm
      · obtain ⟨rfl, rfl⟩ := Prod.mk.inj e1
        obtain rfl := Option.some.inj (hg.symm.trans hg')
        obtain rfl := Option.some.inj (hty.symm.trans ht')
        have hc := Lib.cells_of_tab ht he hce hct hd
        refine ⟨by rw [hvar, ← hc], ?_⟩
        have hsz : 0 < cs.size := by
          have := congrArg List.length hc
          simp at this
          omega
        refine List.mem_append.2 (.inl (List.mem_append.2 (.inl ?_)))
        unfold MemPlace.row
        simp only [List.mem_map, List.mem_range]
        exact ⟨0, hsz, by simp [Addr.add]⟩
      · obtain ⟨h3, h4⟩ := ih h2 hm
        exact ⟨h3, List.mem_append.2 (.inr h4)⟩
  obtain ⟨hv, hc⟩ := key h hm
  obtain ⟨⟨c, T, hh⟩, _⟩ := hp g 0 hc
  unfold World.var? at hv
  rw [hg] at hv
  simp only [Option.bind_some] at hv
  rw [hh] at hv
  obtain rfl := Option.some.inj hv
  exact ⟨T, hh⟩
theorem asp_eq : (Rows.laid_strings_asciiSpace : DataW Unit) = Lib.tabData .u8 Lib.asciiSpaceTab := by kernel_rfl
theorem asp_mem : ("strings.asciiSpace", Lib.tabData .u8 Lib.asciiSpaceTab) ∈ laid3 := by
  rw [← asp_eq]
  exact .tail _ (.tail _ (.tail _ (.tail _ (.tail _ (.head _)))))
theorem pow_eq : (Rows.laid_internal_strconv_uint64pow10 : DataW Unit) = Lib.tabData .u64 Lib.pow10Tab := by kernel_rfl
theorem pow_mem : ("internal/strconv.uint64pow10", Lib.tabData .u64 Lib.pow10Tab) ∈ laid3 := by
  rw [← pow_eq]
  exact .tail _ (.tail _ (.head _))
/-- The tables of the own machine's memory. -/
theorem lay_ok {W : World} (h : laidMetH Tryd.prog laid3 W) : Go.AL.LaidW Go.AL.Fr.none W := by
  rw [MakeChecks.laidMetH_plain _ _ _ (by kernel_rfl)] at h
  intro x hx
  simp only [Go.AL.laidL, List.mem_cons, List.not_mem_nil, or_false] at hx
  rcases hx with rfl | rfl
  · obtain ⟨T, hT⟩ := tab_in (P := Tryd.prog) (l := laid3) (k := .u8) (zs := Lib.asciiSpaceTab) (name := "strings.asciiSpace") (g := 1) (t := 195) (e := 5) (n := 256) (by kernel_rfl) (by kernel_rfl) (by kernel_rfl) (by kernel_rfl) (by kernel_rfl) (by kernel_rfl) (by decide +kernel) (asp_mem) h
    refine ⟨?_, fun e => e, T, hT⟩
    rcases Nat.lt_or_ge 1 W.heap.size with h1 | h1
    · exact h1
    · rw [Array.getElem?_eq_none h1] at hT; cases hT
  · obtain ⟨T, hT⟩ := tab_in (P := Tryd.prog) (l := laid3) (k := .u64) (zs := Lib.pow10Tab) (name := "internal/strconv.uint64pow10") (g := 2) (t := 201) (e := 162) (n := 20) (by kernel_rfl) (by kernel_rfl) (by kernel_rfl) (by kernel_rfl) (by kernel_rfl) (by kernel_rfl) (by decide +kernel) (pow_mem) h
    refine ⟨?_, fun e => e, T, hT⟩
    rcases Nat.lt_or_ge 2 W.heap.size with h1 | h1
    · exact h1
    · rw [Array.getElem?_eq_none h1] at hT; cases hT
/-- The door's own heap meets the condition. -/
theorem door_met (os : Os) (args : Array Value) : laidMetH Tryd.prog laid3 ((World.laidAll Tryd.prog os laid3).forCall (fun _ _ => 0) ⟨#[], args, []⟩).memory :=
  by rw [MakeChecks.laidMetH_plain _ _ _ (by kernel_rfl)]; exact laidMet_laidAll _ (by kernel_rfl) (by kernel_rfl)
theorem witness_ref {H : Type} {enc : TypeId × Value → H} {C : Checked} {os : Os} {f : FuncId} {fn : Func} {s : OpenSpec} {conds : List PathCond} {apart : Bool} {laid : List (String × DataW Unit)} (w0 : World) (args : Array Value) (hos : w0.os = os)
    (hsh : (w0.forCall (fun _ _ => 0) ⟨#[], args, []⟩).Shaped C.prog)
    (hok : Input.okWideB C.prog (w0.forCall (fun _ _ => 0) ⟨#[], args, []⟩) f ⟨#[], args, []⟩ = true)
    (hrow : s.preRow enc C.prog fn conds apart laid (w0.forCall (fun _ _ => 0) ⟨#[], args, []⟩).memory args) :
    ∃ (w : World) (tape : Tape) (i : Input), w.os = os ∧ (w.forCall tape i).Shaped C.prog ∧ i.vars = [] ∧ Input.okWide C.prog (w.forCall tape i) .any w.heap.size f i ∧
      s.preRow enc C.prog fn conds apart laid (w.forCall tape i).memory i.args ∧ ({} : Assume).holds C.prog (lone (Frame.enter C.prog f i.args .normal) [] (w.forCall tape i)) :=
  ⟨w0, fun _ _ => 0, ⟨#[], args, []⟩, hos, hsh, (Input.okWide_of_okWideB (base := 0) hok).1, (Input.okWide_of_okWideB hok).2, hrow, by
    simp only [Assume.holds]
    exact ⟨by simp, by simp, fun _ => Modest.zero, by simp, by simp⟩⟩
set_option maxRecDepth 100000 in
theorem lifted (os : Os) (started : os.Started) (H : Type) (enc : TypeId × Value → H) (F0 : Stop.Interp) :
    ReturnsInHanded {} Tryd.checked os 8 .any ((Rows.OpenSpec.upto Rows.scopeShutSpec).preRow enc Tryd.prog Tryd.f8 [] false laid3) (((Rows.OpenSpec.upto Rows.scopeShutSpec).at F0).post enc Tryd.prog Tryd.f8 false true false false) := by
  refine returnsInHanded_of_row (C := Tryd.checked) (s := Rows.OpenSpec.upto Rows.scopeShutSpec) (laid := laid3) own started (by kernel_rfl) Tryd.func8
    (witness_ref (enc := enc) (C := Tryd.checked) (os := os) (World.laidAll Tryd.prog os laid3) #[.agg #[.string ByteArray.empty, .int .i64 0, nilS, nilS, nilS, nilS, nilS, nilS], nilS] (World.laidAll_os _ _ _) (World.shaped_of_ZipB (by kernel_rfl) (by kernel_rfl)) (by kernel_rfl)
      ⟨⟨(OpenSpec.pre_some (k := Rows.uptoSmall) rfl [] false _ _).2 ⟨_, _, _, DataW.Whole_of_whole (fuel := 8) (x := ([.agg [.lit (.string []), .lit (.int .i64 0), .nil, .nil, .nil, .nil, .nil, .nil], .nil], [], [])) (by kernel_rfl), by kernel_rfl, by kernel_rfl⟩, door_met os _⟩, sizedMet_of_sizedB (fuel := 8) (by kernel_rfl)⟩) ?_
  intro W base args ds gs before hval0 hW hcnd hk0 hsz0 hlaid _ _
  have hk := hk0 _ rfl
  have hW' := hW
  obtain ⟨p, q, hA0, hV, rfl, hfz, hnd⟩ := hW
  have hA : DataW.TrodAll enc Tryd.prog W 0 (fun _ => true) true Tryd.f8.params.toList args.toList ds p := hA0
  obtain ⟨rfl, rfl⟩ := trodVars_none hV
  have hk' : Rows.uptoBulkAll (ds ++ []) ≤ 1048576 := of_decide_eq_true hk
  rw [List.append_nil, bulkAll] at hk'
  have hsz : (DataW.weightsEach Tryd.prog (Tryd.f8.params.toList ++ []) (ds ++ [])).all (· ≤ reachBytes) = true := hsz0
  rw [List.append_nil, List.append_nil] at hsz
  rw [Tryd.params8] at hA hval0 hsz
  refine (Go.AL.law_callsVB (B := Rows.uptoBulk) bulky Go.AL.S10.pa Go.AL.S10.snd (lay_ok hlaid) Go.AL.S10.scopeShut.closed (f := 8) (ts := [64, 22]) (by kernel_rfl) hA (fun j t v e1 e2 => hval0 j t v (by simpa using e1) e2) hsz hk' Go.AL.S10.scopeShut.args_law).mono fun e W' ⟨he, bel, hpost⟩ => ?_
  subst he
  have hlen : ∀ {ts : List TypeId} {vs : List Value} {ds : List (DataW H)} {p : List MemPlace}, DataW.TrodAll enc Tryd.prog W 0 (fun _ => true) true ts vs ds p → ds.length = ts.length := by
    intro ts
    induction ts with
    | nil => intro vs ds p h; cases vs <;> cases ds <;> first | rfl | exact h.elim
    | cons t ts ih => intro vs ds p h; cases vs <;> cases ds <;> first | exact h.elim | (obtain ⟨_, _, _, h2, _⟩ := h; simp [ih h2])
  have hl : ds.length = 2 := hlen hA
  obtain ⟨d1, d2, rfl⟩ : ∃ d1 d2, ds = [d1, d2] := by
    match ds, hl with
    | [d1, d2], _ => exact ⟨d1, d2, rfl⟩
  exact ⟨_, rfl, _, _, _, [], _, [], hW', trodAll_mk1 (shut_bool Tryd.underlying4 _), (by rw [Tryd.params8]; exact hpost), rfl, bel.frame _, fun h => by cases h⟩
theorem over : Rows.scopeShutUptoRow.holds Tryd.pinned (Rows.OpenSpec.upto Rows.scopeShutSpec) :=
  OpenClaim.holds_of_cond 8 Tryd.f8 rfl rfl rfl rfl rfl rfl rfl ⟨rfl, rfl, rfl, rfl, rfl⟩ rfl rfl rfl rfl rfl (by kernel_rfl) Tryd.func8 (by kernel_rfl)
    (of_decide_eq_true (by kernel_rfl)) (by unfold Func.isWrapper; first | (rw [if_pos (by decide +kernel)]; kernel_rfl) | (rw [if_neg (by decide +kernel)]; exact ⟨rfl, rfl⟩))
    (fun os started H enc _ F => by rw [OpenClaim.pre_eq_preRow]; exact lifted os started H enc F)
theorem proved : Rows.ScopeShutUptoCardSaid :=
  Claim7.holds_tied_plain_at .later [] [.data, .data, .data, .data, .listed, .data, .pinned] true (true, "cd4c057f4ec2f14a910725ffded6d7acf2afd09b7250754fd15963fcde194d20") false
    over (fun _ h => by cases h) (by kernel_rfl) (fun _ h => by cases h) scopeShutUpto_row_tie rfl ⟨rfl, rfl⟩ (by kernel_rfl) rfl
    (fun f fn hf hfn => by
      obtain rfl : f = 8 := Option.some.inj ((show Tryd.prog.funcNamed "roadstead/roadkeep2.ScopeShut" = some 8 by kernel_rfl).symm.trans hf) |>.symm
      obtain rfl : fn = Tryd.f8 := (Option.some.inj (Tryd.func8.symm.trans hfn)).symm
      exact ⟨by kernel_rfl, fun j t ht => by
        rw [Tryd.params8] at ht
        have hm : t ∈ [64, 22] := by simpa using Array.mem_of_getElem? ht
        have hall : ([64, 22].all fun u => !Tryd.prog.wantsStandIn u) = true := by kernel_rfl
        exact (show Tryd.prog.wantsStandIn t = false by simpa using List.all_eq_true.1 hall t hm)⟩)
    (by kernel_rfl)
end Go.Proofs.YtlmodlihiglnhaaDoor.scopeShut
namespace Go.Proofs.YtlmodlihiglnhaaDoor
/-- The card, under a short name. -/
theorem scopeShutUptoCard_holds : Rows.ScopeShutUptoCardSaid := scopeShut.proved
end Go.Proofs.YtlmodlihiglnhaaDoor
#print axioms Go.Proofs.YtlmodlihiglnhaaDoor.scopeShutUptoCard_holds
