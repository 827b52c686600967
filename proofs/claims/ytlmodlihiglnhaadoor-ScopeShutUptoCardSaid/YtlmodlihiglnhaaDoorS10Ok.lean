/- strings.IndexByte, strings.Trim, strings.Fields, strconv.Itoa are the primitives: by the library's contracts. -/
import Derived.Test.YtlmodlihiglnhaaDoorS10T
import Derived.Test.YtlmodlihiglnhaaDoorS10LayR
set_option linter.unusedVariables false
set_option linter.unusedSimpArgs false
set_option maxRecDepth 100000
namespace Go.AL.S10
open Go Go.AL Go.RowKit

/-- Behind a call that has left what lay below. -/
theorem grown {F : Fr} {w0 : World} {M0 : Mem} {G : Gh} {s : St} {w w' : World} (h : SRel F w0 M0 G s w) (hb : Below w.heap.size w w') : SRel F w0 M0 { G with M := G.M } s w' := by
  have hs := h.start
  refine h.absorb (G' := G0 G.M) (s' := ⟨[], [], [], 0, 0⟩) ⟨hb.os, hb.tape, hb.output, hb.size, fun k hk _ => hb.block k hk, fun a v e => ?_, hs.base, hs.lay, fun a v e => .inl e, fun b hb => absurd rfl hb, fun _ _ _ => .inl rfl, fun i z cs b h1 _ => by simp at h1, fun i v sz xs h1 => by simp at h1, fun i e h1 => by simp at h1, ⟨rfl, fun i h1 => absurd h1 (Nat.not_lt_zero _)⟩, fun i h1 => absurd h1 (Nat.not_lt_zero _)⟩
  have hc := h.agree a v e
  exact (World.cell?_of_block (hb.block _ (World.block_lt_of_cell? _ _ hc))).trans hc
theorem two_args {G : Gh} {s : St} {a b : PV} {vs : Array Value} (h : FRel G s [.pv a, .pv b] vs) : ∃ u0 u1, vs = #[u0, u1] ∧ PRep G.M a u0 ∧ PRep G.M b u1 := by
  obtain ⟨u0, u1, rfl⟩ : ∃ u0 u1, vs = #[u0, u1] := by
    have := h.1
    simp at this
    match vs, this with
    | ⟨[u0, u1]⟩, _ => exact ⟨u0, u1, rfl⟩
  exact ⟨u0, u1, rfl, h.2 0 _ u0 rfl rfl, h.2 1 _ u1 rfl rfl⟩
theorem data_mkStr (s : List UInt8) : (mkStr s).data.toList = s := by simp [mkStr]
theorem size_mk (s : List UInt8) : (mkStr s).size = s.length := rfl

theorem idx_ok : ∀ args out, idxP args = some out → args.all plainArg = true → CSpec Pr 111 args out := by
  intro args out h hpl
  have hbody : HasBody Pr 111 := ⟨Go.Proofs.Tryd.f111, Go.Proofs.Tryd.func111, rfl⟩
  unfold idxP at h
  split at h
  · rename_i s c
    obtain rfl := Option.some.inj h
    refine ⟨hbody, fun F M G w vs hS hFr => ?_⟩
    have hent : enter [.pv (.str s), .pv (.int .u8 c)] = ([.pv (.str s), .pv (.int .u8 c)], ⟨[], [], [], 0, 0⟩) := rfl
    rw [hent] at hS hFr
    simp only at hS hFr
    obtain ⟨u0, u1, rfl, h0, h1⟩ := two_args hFr
    cases h0
    cases h1
    refine (Go.Proofs.Any.strings_IndexByte Go.Proofs.Tryd.laysIdx (mkStr s) c w).mono ?_
    rintro e w' ⟨rfl, rfl⟩
    rw [data_mkStr]
    exact ⟨_, G, _, rfl, hS, .int _ _, rfl⟩
  · cases h

theorem trim_ok : ∀ args out, trimP args = some out → args.all plainArg = true → CSpec Pr 112 args out := by
  intro args out h hpl
  have hbody : HasBody Pr 112 := ⟨Go.Proofs.Tryd.f112, Go.Proofs.Tryd.func112, rfl⟩
  unfold trimP at h
  split at h
  · rename_i s cs
    replace h := bif_some h; obtain ⟨h1, h⟩ := h
    simp only [Bool.and_eq_true] at h1
    obtain ⟨c1, c2, c3⟩ := h1
    have d2 := Nat.le_of_ble_eq_true c2
    have d3 := Nat.le_of_ble_eq_true c3
    obtain rfl := Option.some.inj h
    refine ⟨hbody, fun F M G w vs hS hFr => ?_⟩
    have hent : enter [.pv (.str s), .pv (.str cs)] = ([.pv (.str s), .pv (.str cs)], ⟨[], [], [], 0, 0⟩) := rfl
    rw [hent] at hS hFr
    simp only at hS hFr
    obtain ⟨u0, u1, rfl, h0, h1⟩ := two_args hFr
    cases h0
    cases h1
    refine (Go.Proofs.Any.strings_Trim_laid Go.Proofs.Tryd.laysTrim (by kernel_rfl) (mkStr s) (mkStr cs) w (by rw [size_mk]; omega) (by rw [size_mk]; omega) (by rw [data_mkStr]; exact fun j b hb => of_decide_eq_true (List.all_eq_true.1 c1 b (List.mem_of_getElem? hb)))).mono ?_
    rintro e w' ⟨rfl, hb⟩
    rw [data_mkStr, data_mkStr]
    exact ⟨_, _, _, rfl, grown hS hb, .str _, rfl⟩
  · cases h

theorem fields_ok : ∀ args out, fieldsP args = some out → args.all plainArg = true → CSpec Pr 113 args out := by
  intro args out h hpl
  have hbody : HasBody Pr 113 := ⟨Go.Proofs.Tryd.f113, Go.Proofs.Tryd.func113, rfl⟩
  unfold fieldsP at h
  split at h
  · rename_i s
    replace h := bif_some h; obtain ⟨h1, h⟩ := h
    simp only [Bool.and_eq_true] at h1
    obtain ⟨c1, c2⟩ := h1
    have d2 := Nat.le_of_ble_eq_true c2
    obtain rfl := Option.some.inj h
    refine ⟨hbody, fun F M G w vs hS hFr => ?_⟩
    have hent : enter [.pv (.str s)] = ([.pv (.str s)], ⟨[], [], [], 0, 0⟩) := rfl
    rw [hent] at hS hFr
    simp only at hS hFr
    obtain ⟨u0, rfl⟩ : ∃ u0, vs = #[u0] := by
      have := hFr.1
      simp at this
      match vs, this with
      | ⟨[u0]⟩, _ => exact ⟨u0, rfl⟩
    have h0 : PRep G.M (.str s) u0 := hFr.2 0 _ u0 rfl rfl
    cases h0
    have htab : Lib.TabIs Go.Proofs.Tryd.prog w "strings.asciiSpace" .u8 Lib.asciiSpaceTab := by
      obtain ⟨_, _, T, hh⟩ := hS.lay_at (x := (1, .u8, Lib.asciiSpaceTab)) (List.mem_cons.2 (.inl rfl))
      have hg : Go.Proofs.Tryd.prog.globalNamed "strings.asciiSpace" = some 1 := by kernel_rfl
      unfold Lib.TabIs World.var?
      rw [hg]
      simp only [Option.bind_some]
      rw [hh]
    refine (Go.Proofs.Any.strings_Fields_laid Go.Proofs.Tryd.laysFields (mkStr s) w (by rw [size_mk]; omega) (by rw [data_mkStr]; exact fun j b hb => of_decide_eq_true (List.all_eq_true.1 c1 b (List.mem_of_getElem? hb))) htab).mono ?_
    rintro e w' ⟨rfl, rfl⟩
    rw [data_mkStr]
    have hfl : ∀ l : List (List UInt8), flat (l.map PV.str) = l.map PV.str := fun l => by
      induction l with
      | nil => rfl
      | cons z zs ih =>
        simp only [flat, List.map_cons, List.flatMap_cons] at ih ⊢
        rw [ih]; rfl
    obtain ⟨G1, q1, q2, q3⟩ := hS.newPlain (xs := (Lib.fields s).map PV.str) (sz := 1) (by omega) (by intro x hx; obtain ⟨z, _, rfl⟩ := List.mem_map.1 hx; rfl) (vs := ((Lib.fields s).map fun l => Value.string ⟨l.toArray⟩).toArray) (Go.Proofs.Tryd.laysFields_ren.t 9) (by rw [hfl]; simp) (by
      intro i p u h1 h2
      rw [hfl, List.getElem?_map] at h1
      rw [List.getElem?_toArray, List.getElem?_map] at h2
      cases hi : (Lib.fields s)[i]? with
      | none => rw [hi] at h1; cases h1
      | some z =>
        rw [hi] at h1 h2
        obtain rfl := Option.some.inj h1
        obtain rfl := Option.some.inj h2
        exact ⟨.str _, rfl⟩) (Lib.fields s).length (by simp)
    rw [List.length_map] at q3
    exact ⟨_, G1, _, rfl, q1, q3, rfl⟩
  · cases h
theorem srel_drewN {F : Fr} {w0 : World} {M0 : Mem} {G : Gh} {s : St} {w : World} (h : SRel F w0 M0 G s w) (n : Nat) : SRel F w0 M0 G s (w.drewN n) :=
  ⟨h.os, h.tape, h.output, h.size, h.old, h.agree, h.base, h.lay, h.newM, h.own, h.ownM, h.bx, h.vc, h.tp, h.rt, h.rv⟩
theorem srel_growL {F : Fr} {w0 : World} {M0 : Mem} {G : Gh} {s : St} : ∀ (l : List Obj) {w : World}, SRel F w0 M0 G s w → SRel F w0 M0 G s (Go.Sort.grow w l.toArray)
  | [], w, h => by rw [show ([] : List Obj).toArray = #[] from rfl, Go.Sort.grow_empty]; exact h
  | x :: l, w, h => by
    have e : Go.Sort.grow w (x :: l).toArray = Go.Sort.grow (w.alloc x) l.toArray := by
      rw [Go.Sort.alloc_eq_grow, Go.Sort.grow_grow]
      simp
    rw [e]
    exact srel_growL l (h.alloc x)
theorem srel_grow {F : Fr} {w0 : World} {M0 : Mem} {G : Gh} {s : St} {w : World} (h : SRel F w0 M0 G s w) (os : Array Obj) : SRel F w0 M0 G s (Go.Sort.grow w os) := by
  have := srel_growL os.toList h
  simpa using this
theorem itoa_ok : ∀ args out, itoaP args = some out → args.all plainArg = true → CSpec Pr 104 args out := by
  intro args out h hpl
  have hbody : HasBody Pr 104 := ⟨Go.Proofs.Tryd.f104, Go.Proofs.Tryd.func104, rfl⟩
  unfold itoaP at h
  split at h
  · rename_i n
    replace h := bif_some h; obtain ⟨h1, h⟩ := h
    simp only [Bool.and_eq_true] at h1
    have c1 := of_decide_eq_true h1.1
    have c2 := of_decide_eq_true h1.2
    obtain rfl := Option.some.inj h
    refine ⟨hbody, fun F M G w vs hS hFr => ?_⟩
    have hent : enter [.pv (.int .i64 n)] = ([.pv (.int .i64 n)], ⟨[], [], [], 0, 0⟩) := rfl
    rw [hent] at hS hFr
    simp only at hS hFr
    obtain ⟨u0, rfl⟩ : ∃ u0, vs = #[u0] := by
      have := hFr.1
      simp at this
      match vs, this with
      | ⟨[u0]⟩, _ => exact ⟨u0, rfl⟩
    have h0 : PRep G.M (.int .i64 n) u0 := hFr.2 0 _ u0 rfl rfl
    cases h0
    have htab : Lib.TabIs Go.Proofs.Tryd.prog w "internal/strconv.uint64pow10" .u64 Lib.pow10Tab := by
      obtain ⟨_, _, T, hh⟩ := hS.lay_at (x := (2, .u64, Lib.pow10Tab)) (List.mem_cons.2 (.inr (List.mem_singleton.2 rfl)))
      have hg : Go.Proofs.Tryd.prog.globalNamed "internal/strconv.uint64pow10" = some 2 := by kernel_rfl
      unfold Lib.TabIs World.var?
      rw [hg]
      simp only [Option.bind_some]
      rw [hh]
    refine (Go.Proofs.Any.strconv_Itoa Go.Proofs.Tryd.laysItoa n c1 c2 w htab).mono ?_
    rintro e w' ⟨rfl, k, os, rfl⟩
    exact ⟨_, _, _, rfl, srel_grow (srel_drewN hS k) os, .str _, rfl⟩
  · cases h
theorem snd (n : Nat) : CallOk Pr (acall Pr T n) := sound tok fok mixed (prims (fun x hx => by
  simp only [extras, List.mem_cons, List.not_mem_nil, or_false] at hx
  rcases hx with rfl | rfl | rfl | rfl
  · exact itoa_ok
  · exact idx_ok
  · exact trim_ok
  · exact fields_ok)) n
end Go.AL.S10
