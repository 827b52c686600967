/- parse.Read of one text: what it comes to. -/
import Derived.Test.YtjfibflkfdpllaaGreatDoorS11T
import Derived.Test.YtjfibflkfdpllaaGreatDoorS11LayR
import Derived.Test.YtjfibflkfdpllaaGreatDoorAL5
set_option linter.unusedVariables false
set_option linter.unusedSimpArgs false
set_option maxRecDepth 100000
namespace Go.AL.S11
open Go Go.AL Go.RowKit
/- the tables without parse.Read -/
def T0 : Tab := { T with prim := fun f => primXs [(67, atoiP)] clones f }
theorem prims0 (hx : ∀ args out, atoiP args = some out → args.all plainArg = true → CSpec Pr 67 args out) : PrimOk Pr T0 := primXs_ok tok fok mixed (fun x hm => by
  simp only [List.mem_cons, List.not_mem_nil, or_false] at hm
  subst hm
  exact hx) clones (fun f => rfl) (by
  intro c hc call
  simp only [clones, List.mem_cons, List.not_mem_nil, or_false] at hc
  rcases hc with rfl
  · exact ⟨c10_nn call, c10_nil call⟩)
/-- Behind a call that has left what lay below. -/
theorem grown {F : Fr} {w0 : World} {M0 : Mem} {G : Gh} {s : St} {w w' : World} (h : SRel F w0 M0 G s w) (hb : Below w.heap.size w w') : SRel F w0 M0 { G with M := G.M } s w' := by
  have hs := h.start
  refine h.absorb (G' := G0 G.M) (s' := ⟨[], [], [], 0, 0⟩) ⟨hb.os, hb.tape, hb.output, hb.size, fun k hk _ => hb.block k hk, fun a v e => ?_, hs.base, hs.lay, fun a v e => .inl e, fun b hb => absurd rfl hb, fun _ _ _ => .inl rfl, fun i z cs b h1 _ => by simp at h1, fun i v sz xs h1 => by simp at h1, fun i e h1 => by simp at h1, ⟨rfl, fun i h1 => absurd h1 (Nat.not_lt_zero _)⟩, fun i h1 => absurd h1 (Nat.not_lt_zero _)⟩
  have hc := h.agree a v e
  exact (World.cell?_of_block (hb.block _ (World.block_lt_of_cell? _ _ hc))).trans hc
theorem data_mkStr (s : List UInt8) : (mkStr s).data.toList = s := by simp [mkStr]
theorem size_mk (s : List UInt8) : (mkStr s).size = s.length := rfl
theorem atoi_ok : ∀ args out, atoiP args = some out → args.all plainArg = true → CSpec Pr 67 args out := by
  intro args out h hpl
  have hbody : HasBody Pr 67 := ⟨Go.Proofs.Tryz.f67, Go.Proofs.Tryz.func67, rfl⟩
  unfold atoiP at h
  split at h
  · rename_i s
    replace h := bif_some h; obtain ⟨h1, h⟩ := h
    have d1 := Nat.le_of_ble_eq_true h1
    split at h
    · rename_i n hn
      obtain rfl := Option.some.inj h
      refine ⟨hbody, fun F M G w vs hS hFr => ?_⟩
      have hent : enter [.pv (.str s)] = ([.pv (.str s)], ⟨[], [], [], 0, 0⟩) := rfl
      rw [hent] at hS hFr
      simp only at hS hFr
      obtain ⟨u0, rfl⟩ : ∃ u0, vs = #[u0] := by
        have := hFr.1
        simp at this
        match vs, this with
        | ⟨[u0]⟩, _ => exact ⟨u0, rfl⟩
      have h0 : PRep G.M (.str s) u0 := hFr.2 0 _ u0 rfl rfl
      cases h0
      refine (Go.Proofs.Any.strconv_Atoi Go.Proofs.Tryz.laysAtoi (mkStr s) n (by rw [size_mk]; omega) (by rw [data_mkStr]; exact hn) w).mono ?_
      rintro e w' ⟨rfl, t, rfl⟩
      refine ⟨_, _, _, rfl, grown hS ⟨rfl, rfl, rfl, by rw [Lib.bytesWorld_size]; omega, fun k hk => Lib.bytesWorld_at_old w _ t k hk⟩, ?_, rfl⟩
      exact PRep.tup _ _ rfl fun i c v e1 e2 => by
        match i with
        | 0 => simp at e1 e2; subst e1; subst e2; exact .int _ _
        | 1 => simp at e1 e2; subst e1; subst e2; exact .nilI
        | i + 2 => simp at e1
    · cases h
  · cases h
theorem snd0 (n : Nat) : CallOk Pr (acall Pr T0 n) := sound tok fok mixed (prims0 atoi_ok) n

def toksP : PV := .lst [.agg [.int .i64 3, .str [109, 111, 100, 117, 108, 101], .int .i64 0], .agg [.int .i64 1, .str [109], .int .i64 7], .agg [.int .i64 4, .str [49], .int .i64 9], .agg [.int .i64 6, .str [59], .int .i64 10], .agg [.int .i64 3, .str [100, 97, 116, 97], .int .i64 12], .agg [.int .i64 2, .str [78, 97, 116], .int .i64 17], .agg [.int .i64 6, .str [61], .int .i64 21], .agg [.int .i64 2, .str [90, 101, 114, 111], .int .i64 23], .agg [.int .i64 6, .str [124], .int .i64 28], .agg [.int .i64 2, .str [78, 101, 120, 116], .int .i64 30], .agg [.int .i64 6, .str [40], .int .i64 34], .agg [.int .i64 2, .str [78, 97, 116], .int .i64 35], .agg [.int .i64 6, .str [41], .int .i64 38], .agg [.int .i64 6, .str [59], .int .i64 39], .agg [.int .i64 3, .str [100, 97, 116, 97], .int .i64 41], .agg [.int .i64 2, .str [80, 97, 105, 114], .int .i64 46], .agg [.int .i64 6, .str [61], .int .i64 51], .agg [.int .i64 2, .str [80, 97, 105, 114], .int .i64 53], .agg [.int .i64 6, .str [40], .int .i64 57], .agg [.int .i64 2, .str [78, 97, 116], .int .i64 58], .agg [.int .i64 6, .str [44], .int .i64 61], .agg [.int .i64 3, .str [98, 111, 111, 108], .int .i64 63], .agg [.int .i64 6, .str [41], .int .i64 67], .agg [.int .i64 6, .str [124], .int .i64 69], .agg [.int .i64 2, .str [79, 110, 101], .int .i64 71], .agg [.int .i64 6, .str [40], .int .i64 74], .agg [.int .i64 3, .str [105, 110, 116], .int .i64 75], .agg [.int .i64 6, .str [41], .int .i64 78], .agg [.int .i64 6, .str [59], .int .i64 79], .agg [.int .i64 3, .str [97, 99, 116, 111, 114], .int .i64 81], .agg [.int .i64 2, .str [65], .int .i64 87], .agg [.int .i64 6, .str [40], .int .i64 88], .agg [.int .i64 6, .str [41], .int .i64 89], .agg [.int .i64 6, .str [58], .int .i64 90], .agg [.int .i64 3, .str [105, 110, 116], .int .i64 92], .agg [.int .i64 6, .str [61], .int .i64 96], .agg [.int .i64 6, .str [40], .int .i64 98], .agg [.int .i64 6, .str [41], .int .i64 99], .agg [.int .i64 6, .str [59], .int .i64 100]]
def inl : Nat → Bool := fun f => Nat.beq f 42 || (Nat.beq f 43 || (Nat.beq f 72 || Nat.beq f 90))
noncomputable def E0 : Env := envOf T0 (acall Pr T0 100)
noncomputable def J0 : Inl := inlN Pr E0 inl 30
theorem r_toks : acall Pr T0 100 26 [.pv (.str shapes)] = some (.pv (.tup [toksP, .int .i64 0, .int .i64 0]), []) := by kernel_rfl
theorem r_prog : runI Pr E0 J0 inl 28 100 [.box [toksP, .int .i64 0, .int .i64 101]] = some (.pv shapesP, [.box [toksP, .int .i64 39, .int .i64 101]]) := by kernel_rfl
theorem r_right : acall Pr T0 100 29 [.pv shapesP] = some (.pv (.int .i64 0), []) := by kernel_rfl
end Go.AL.S11
