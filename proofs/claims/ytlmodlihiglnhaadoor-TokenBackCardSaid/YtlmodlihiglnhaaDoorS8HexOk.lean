/- strconv.AppendInt is the primitive. -/
import Derived.Test.YtlmodlihiglnhaaDoorS8Hex
set_option linter.unusedVariables false
set_option linter.unusedSimpArgs false
set_option maxRecDepth 100000
namespace Go.AL.S8
open Go Go.AL

theorem cells1 (d : Int) : (Go.Proofs.Tryd.zeroCells203.setIfInBounds 64 (.int .u8 d)) = ((List.replicate 64 (0 : Int) ++ [d]).map (Value.int .u8)).toArray := by rfl
theorem cells2 (d e : Int) : ((Go.Proofs.Tryd.zeroCells203.setIfInBounds 64 (.int .u8 e)).setIfInBounds 63 (.int .u8 d)) = ((List.replicate 63 (0 : Int) ++ [d, e]).map (Value.int .u8)).toArray := by rfl
theorem flat_ints (zs : List Int) : flat (zs.map (PV.int .u8)) = zs.map (PV.int .u8) := by
  induction zs with
  | nil => rfl
  | cons z zs ih =>
    simp only [flat, List.map_cons, List.flatMap_cons] at ih ⊢
    rw [ih]; rfl

/-- What is left behind the call. -/
def Post (F : Fr) (w : World) (M : Mem) (xs ys : List PV) (x : Value) (w' : World) : Prop := ∃ G' s', SRel F w M G' s' w' ∧ OutRel G' s' (.bld 1 (xs ++ ys), []) x ∧ refs s' = some []

theorem app_ok {F : Fr} {w : World} {M : Mem} {G : Gh} {xs : List PV} {v : Value} (hS : SRel F w M G ⟨[], [], [(0, 1)], 0, 0⟩ w) (hv : ARel G ⟨[], [], [(0, 1)], 0, 0⟩ (.bld 0 0 xs) v) (hx : xs.length + 2 ≤ 1000000) (zs : List Int) (hz : zs.length = 65) (off n : Nat) (hn : n ≤ 2) (ho : off + n = 65) :
    Go.Proofs.App v off n w (w.alloc (.cells (zs.map (Value.int .u8)).toArray 203)) (Post F w M xs ((zs.drop off).map (PV.int .u8))) := by
  intro a o hop hty h95 h97
  obtain ⟨G1, q1, q2, q3⟩ := hS.newPlain (xs := zs.map (PV.int .u8)) (sz := 1) (by omega) (by intro x hx; obtain ⟨z, _, rfl⟩ := List.mem_map.1 hx; rfl) (vs := (zs.map (Value.int .u8)).toArray) 203 (by rw [flat_ints]; simp) (by
    intro i p u h1 h2
    rw [flat_ints, List.getElem?_map] at h1
    rw [List.getElem?_toArray, List.getElem?_map] at h2
    cases hi : zs[i]? with
    | none => rw [hi] at h1; cases h1
    | some z =>
      rw [hi] at h1 h2
      obtain rfl := Option.some.inj h1
      obtain rfl := Option.some.inj h2
      exact ⟨.int _ _, rfl⟩) 65 (by simp; omega)
  have hlen : (zs.map (PV.int .u8)).length = 65 := by simp [hz]
  have q4 := rep_drop q3 off 65 1 (by intro x hx; obtain ⟨z, _, rfl⟩ := List.mem_map.1 hx; rfl) n (by omega) (by omega) (by rw [hlen]; omega) (by omega)
  rw [hlen, show min 65 65 - off = n by omega, List.take_of_length_le (by omega), Nat.mul_one] at q4
  have hA : (some (⟨w.heap.size, 0, none⟩ : Addr)).map (·.add off) = some ⟨w.heap.size, off, none⟩ := by
    show some ((⟨w.heap.size, 0, none⟩ : Addr).add off) = _
    rw [Addr.add_lit, Nat.zero_add]
  rw [hA] at q4
  have hdl : (zs.drop off).length = n := by simp; omega
  have hb1 : bytesT Pr 5 = 1 := by kernel_rfl
  have happ := s_append (P := Pr) (av := fun y => match y with | .tmp 95 => some (.bld 0 0 xs) | .tmp 97 => some (.pv (.lst ((zs.drop off).map (PV.int .u8)))) | _ => none) (ty := 84) tok (c := { callee := .builtin .append, args := #[.tmp 95, .tmp 97], argTypes := #[84, 84] }) (t := 84) (e := 5) (z := .int .u8 0) (s := ⟨[], [], [(0, 1)], 0, 0⟩)
    (y := .tmp 95) (x := .tmp 97) (b := .pv (.lst ((zs.drop off).map (PV.int .u8)))) (i := 0) (v := 0) (sz := 1) (xs := xs) (ys := (zs.drop off).map (PV.int .u8)) rfl rfl rfl (by kernel_rfl) (by kernel_rfl) rfl rfl rfl rfl (by kernel_rfl) (by rw [hb1]; omega) (by rw [hb1]; omega) (by cases zs.drop off <;> rfl)
    (by rw [hb1]; simp; omega)
  have := happ F w M G1 a _ o q1 (by
    intro y b hb
    dsimp only at hb
    split at hb
    · obtain rfl := Option.some.inj hb; rw [h95]; exact hv.ext q2
    · obtain rfl := Option.some.inj hb; rw [h97]; rw [List.map_drop]; exact q4
    · cases hb) hop hty
  refine this.mono fun u w' hu => ?_
  obtain ⟨G', k1, k2, k3⟩ := hu
  exact ⟨G', _, k1, .inr ⟨0, 1, rfl, k3⟩, rfl⟩

theorem hex_ok : ∀ args out, hexP args = some out → args.all plainArg = true → CSpec Pr 41 args out := by
  intro args out h hpl
  have hbody : HasBody Pr 41 := ⟨Go.Proofs.Tryd.f41, Go.Proofs.Tryd.func41, rfl⟩
  unfold hexP at h
  split at h
  · rename_i sz xs n b
    replace h := bif_some h; obtain ⟨h1, h⟩ := h
    simp only [Bool.and_eq_true] at h1
    obtain ⟨c1, c2, c3, c4, c5⟩ := h1
    obtain rfl : sz = 1 := beq_eq c1
    have d2 := of_decide_eq_true c2
    have d3 := of_decide_eq_true c3
    obtain rfl : b = 16 := by simpa using c4
    have d5 := Nat.le_of_ble_eq_true c5
    obtain ⟨u, rfl⟩ : ∃ u : Nat, n = u := ⟨n.toNat, by omega⟩
    have hu : u < 256 := by omega
    obtain rfl := Option.some.inj h
    refine ⟨hbody, fun F M G w vs hS hFr => ?_⟩
    have hent : enter [.bld 1 xs, .pv (.int .i64 u), .pv (.int .i64 16)] = ([.bld 0 0 xs, .pv (.int .i64 u), .pv (.int .i64 16)], ⟨[], [], [(0, 1)], 0, 0⟩) := rfl
    rw [hent] at hS hFr
    simp only at hS hFr
    obtain ⟨u0, u1, u2, rfl⟩ : ∃ u0 u1 u2, vs = #[u0, u1, u2] := by
      have := hFr.1
      simp at this
      match vs, this with
      | ⟨[u0, u1, u2]⟩, _ => exact ⟨u0, u1, u2, rfl⟩
    have hu0 : ARel G ⟨[], [], [(0, 1)], 0, 0⟩ (.bld 0 0 xs) u0 := hFr.2 0 _ u0 rfl rfl
    have hu1 : u1 = .int .i64 u := by
      have hp : PRep G.M (.int .i64 u) u1 := hFr.2 1 _ u1 rfl rfl
      cases hp; rfl
    have hu2 : u2 = .int .i64 16 := by
      have hp : PRep G.M (.int .i64 16) u2 := hFr.2 2 _ u2 rfl rfl
      cases hp; rfl
    subst hu1; subst hu2
    have hcell : w.cell? ⟨5, 15, none⟩ = some (.int .u8 4) := hS.agree _ _ (hS.base _ _ (hS.lay _ _ rfl))
    have hsz : 5 < w.heap.size := World.block_lt_of_cell? _ _ hcell
    have fin : ∀ ys : List PV, ys = hexL u → ∀ x w', Post F w M xs ys x w' → ∃ G' s', SRel F w M G' s' w' ∧ OutRel G' s' (.bld 1 (xs ++ hexL u), []) x ∧ refs s' = some [] := by
      rintro _ rfl x w' h; exact h
    refine (Go.Proofs.Tryd.ai41 u0 u hu w (Post F w M xs (hexL u)) (Go.Proofs.Tryd.au107 u0 u w _ (Go.Proofs.Tryd.fb129 u0 u hu w hsz hcell _ ?_ ?_))).mono ?_
    · intro hlt
      rw [cells1]
      have := app_ok hS hu0 d5 (List.replicate 64 (0 : Int) ++ [hx u]) (by simp) 64 1 (by omega) (by omega)
      have e : hexL u = ((List.replicate 64 (0 : Int) ++ [hx u]).drop 64).map (PV.int .u8) := by
        unfold hexL; rw [show Nat.blt u 16 = true from Nat.ble_eq_true_of_le hlt]; rfl
      rw [e]; exact this
    · intro hge
      rw [cells2]
      have := app_ok hS hu0 d5 (List.replicate 63 (0 : Int) ++ [hx (u / 16), hx (u % 16)]) (by simp) 63 2 (by omega) (by omega)
      have e : hexL u = ((List.replicate 63 (0 : Int) ++ [hx (u / 16), hx (u % 16)]).drop 63).map (PV.int .u8) := by
        unfold hexL; rw [show Nat.blt u 16 = false from by
          cases h : Nat.blt u 16 with
          | false => rfl
          | true => exact absurd (show u + 1 ≤ 16 from Nat.le_of_ble_eq_true h) (by omega)]; rfl
      rw [e]; exact this
    · rintro e w' ⟨x, rfl, G', s', k1, k2, k3⟩
      exact ⟨x, G', s', rfl, k1, k2, k3⟩
  · cases h
end Go.AL.S8
