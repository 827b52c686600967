/- strings.Join is the primitive: by the library's contract. -/
import Derived.Test.YtlmodlihiglnhaaDoorS8HexOk
import Derived.Test.YtlmodlihiglnhaaDoorS8LayJ
set_option linter.unusedVariables false
set_option linter.unusedSimpArgs false
set_option maxRecDepth 100000
namespace Go.Proofs
open Go.Shelf
theorem Tryd.joinExtra : Builder.Extra Tryd.prog Tryd.laysJoin_ren := {
  sizeBuilder := by kernel_rfl
  liesBuilder := by kernel_rfl
  t5 := Tryd.underlying5
  a5 := Tryd.isAgg5
  z5 := Tryd.sizeOf5
  v5 := Tryd.zeroValue5
  infoByte := by kernel_rfl
  cellsByte := by kernel_rfl
  sizeByte := by kernel_rfl
  neB5 := by decide }
end Go.Proofs
namespace Go.AL.S8
open Go Go.AL Go.RowKit

/-- Behind a call that has left what lay below. -/
theorem grown {F : Fr} {w0 : World} {M0 : Mem} {G : Gh} {s : St} {w w' : World} (h : SRel F w0 M0 G s w) (hb : Below w.heap.size w w') : SRel F w0 M0 { G with M := G.M } s w' := by
  have hs := h.start
  refine h.absorb (G' := G0 G.M) (s' := ⟨[], [], [], 0, 0⟩) ⟨hb.os, hb.tape, hb.output, hb.size, fun k hk _ => hb.block k hk, fun a v e => ?_, hs.base, hs.lay, fun a v e => .inl e, fun b hb => absurd rfl hb, fun _ _ _ => .inl rfl, fun i z cs b h1 _ => by simp at h1, fun i v sz xs h1 => by simp at h1, fun i e h1 => by simp at h1, ⟨rfl, fun i h1 => absurd h1 (Nat.not_lt_zero _)⟩, fun i h1 => absurd h1 (Nat.not_lt_zero _)⟩
  have hc := h.agree a v e
  exact (World.cell?_of_block (hb.block _ (World.block_lt_of_cell? _ _ hc))).trans hc

theorem isStr_eq {p : PV} (h : isStrPV p = true) : p = .str p.toStr := by cases p <;> first | rfl | cases h

theorem join_ok : ∀ args out, joinP args = some out → args.all plainArg = true → CSpec Pr 22 args out := by
  intro args out h hpl
  have hbody : HasBody Pr 22 := ⟨Go.Proofs.Tryd.f22, Go.Proofs.Tryd.func22, rfl⟩
  unfold joinP at h
  split at h
  · rename_i xs sep
    replace h := bif_some h; obtain ⟨h1, h⟩ := h
    simp only [Bool.and_eq_true] at h1
    obtain ⟨c1, c2, c3⟩ := h1
    have d2 := Nat.le_of_ble_eq_true c2
    have d3 := Nat.le_of_ble_eq_true c3
    obtain rfl := Option.some.inj h
    refine ⟨hbody, fun F M G w vs hS hFr => ?_⟩
    have hent : enter [.pv (.lst xs), .pv (.str sep)] = ([.pv (.lst xs), .pv (.str sep)], ⟨[], [], [], 0, 0⟩) := rfl
    rw [hent] at hS hFr
    simp only at hS hFr
    obtain ⟨u0, u1, rfl⟩ : ∃ u0 u1, vs = #[u0, u1] := by
      have := hFr.1
      simp at this
      match vs, this with
      | ⟨[u0, u1]⟩, _ => exact ⟨u0, u1, rfl⟩
    have hu0 : PRep G.M (.lst xs) u0 := hFr.2 0 _ u0 rfl rfl
    have hu1 : u1 = .string (mkStr sep) := by
      have hp : PRep G.M (.str sep) u1 := hFr.2 1 _ u1 rfl rfl
      cases hp; rfl
    subst hu1
    have hall := List.all_eq_true.1 c1
    have eb : (xs.map fun x => mkStr x.toStr).map (·.data.toList) = xs.map PV.toStr := by
      rw [List.map_map]
      exact List.map_congr_left fun x _ => by simp [mkStr]
    have fin : ∀ (e : Ending) (w' : World), (e = .returned (.string ⟨(Lib.join ((xs.map fun x => mkStr x.toStr).map (·.data.toList)) (mkStr sep).data.toList).toArray⟩) ∧ Below w.heap.size w w') → ∃ v G' s', e = .returned v ∧ SRel F w M G' s' w' ∧ OutRel G' s' (.pv (.str (joinS sep (xs.map PV.toStr))), []) v ∧ refs s' = some [] := by
      rintro e w' ⟨rfl, hb⟩
      rw [eb]
      have : (mkStr sep).data.toList = sep := by simp [mkStr]
      rw [this]
      exact ⟨_, _, _, rfl, grown hS hb, .str _, rfl⟩
    cases hu0 with
    | lst _ A cap sz cs hsz hcap hs ho hA hm hr =>
      by_cases hne : xs = []
      · subst hne
        refine (Go.Proofs.Any.strings_Join_none Go.Proofs.Tryd.laysJoin Go.Proofs.Tryd.joinExtra A cap (mkStr sep) w).mono fun e w' ⟨he, hw⟩ => fin e w' ⟨he, hw ▸ Below.refl _ _⟩
      · have hpos : 0 < xs.length := List.length_pos_iff.2 hne
        obtain ⟨⟨bk, o, sp⟩, rfl⟩ : ∃ ad, A = some ad := by
          cases A with
          | none => exact absurd rfl (hA (by omega))
          | some ad => exact ⟨ad, rfl⟩
        have hsz1 : sz = 1 := by
          obtain ⟨x, hx⟩ := List.exists_mem_of_ne_nil _ hne
          rw [← hs x hx, isStr_eq (hall x hx)]; rfl
        subst hsz1
        have get : ∀ (j : Nat) x, xs[j]? = some x → w.cell? ((⟨bk, o, sp⟩ : Addr).add j) = some (.string (mkStr x.toStr)) := by
          intro j x hj
          have hx := isStr_eq (hall x (List.mem_of_getElem? hj))
          have h0 : x.cells[0]? = some (.str x.toStr) := by rw [hx]; rfl
          have h1 := hm _ rfl j x 0 _ hj h0
          have h2 := hr j x 0 _ hj h0
          rw [Nat.mul_one, Nat.add_zero] at h1
          rw [hS.agree _ _ h1]
          generalize cs j 0 = u at h2
          cases h2; rfl
        have hx0 := get 0 xs[0] (List.getElem?_eq_getElem hpos)
        have hsp : sp = none := by
          have := World.cell?_spot hx0
          rw [Addr.add_zero'] at this
          exact this
        subst hsp
        have hbk : bk < w.heap.size := by
          have := World.block_lt_of_cell? _ _ hx0
          rw [Addr.add_lit] at this
          exact this
        have := Go.Proofs.Any.strings_Join Go.Proofs.Tryd.laysJoin Go.Proofs.Tryd.joinExtra bk o cap (xs.map fun x => mkStr x.toStr) (mkStr sep) w (by
          intro j x hj
          rw [List.getElem?_map] at hj
          cases hx : xs[j]? with
          | none => rw [hx] at hj; cases hj
          | some y =>
            rw [hx] at hj
            obtain rfl := Option.some.inj hj
            have := get j y hx
            rw [Addr.add_lit] at this
            exact this) hbk (by rw [List.length_map]; omega) (by rw [List.length_map]; exact hcap) (by
          rw [eb, show (mkStr sep).data.toList = sep by simp [mkStr]]
          have : (Lib.join (xs.map PV.toStr) sep).length ≤ 100000000 := d3
          omega)
        rw [List.length_map] at this
        exact this.mono fin
  · cases h

theorem snd (n : Nat) : CallOk Pr (acall Pr T n) := sound tok fok mixed (prims (fun x hx => by
  simp only [extras, List.mem_cons, List.not_mem_nil, or_false] at hx
  rcases hx with rfl | rfl
  · exact join_ok
  · exact hex_ok)) n
end Go.AL.S8
