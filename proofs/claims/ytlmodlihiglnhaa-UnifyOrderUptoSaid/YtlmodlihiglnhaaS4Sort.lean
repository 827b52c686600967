/- slices.SortFunc of what unknowns are: the library's own sort, by its contract, is sortP; so all calls are sound. -/
import Derived.Test.YtlmodlihiglnhaaS4T
import Derived.Test.YtlmodlihiglnhaaS4SortA
import Derived.Shelf.SlSortCmp.NoneTotal
import Derived.Shelf.SlSortCmp.WholeK
import Derived.Shelf.Small.Strs
import Derived.Ground.SlsfProg
import Derived.Ground.NamesProg
import Derived.Test.YtlmodlihiglnhaaChecked
set_option linter.unusedVariables false
set_option linter.unusedSimpArgs false
namespace Go.Proofs
open Go.Shelf Go.RowKit Go.Lib Go.Sort
def Try.sortBind_ren : Go.Shelf.Ren := ⟨fun | 6 => 52 | 15 => 84 | 14 => 83 | 28 => 126 | 29 => 127 | 20 => 118 | 21 => 119 | 22 => 120 | 23 => 121 | 24 => 122 | 25 => 123 | 26 => 124 | 27 => 125 | 46 => 136 | 47 => 137 | 48 => 138 | 49 => 139 | 50 => 140 | 57 => 147 | n => n, fun | 22 => 45 | 24 => 52 | 25 => 103 | 3 => 3 | 39 => 154 | 0 => 0 | 53 => 193 | 55 => 195 | 4 => 4 | 46 => 187 | 45 => 186 | 50 => 141 | 5 => 5 | 9 => 9 | 66 => 199 | 70 => 203 | 76 => 212 | 77 => 98 | n => n, fun | n => n⟩
theorem Try.sortBind : Go.Proofs.SlLaysF0.n6 Try.prog Try.sortBind_ren := {
  mixed := by kernel_rfl
  f6 := ⟨Try.f52.name, by decide, Try.func52.trans (congrArg some (by kernel_rfl))⟩
  f14 := ⟨Try.f83.name, by decide, Try.func83.trans (congrArg some (by kernel_rfl))⟩
  f15 := Try.func84.trans (congrArg some (by kernel_rfl))
  f20 := ⟨Try.f118.name, by decide, Try.func118.trans (congrArg some (by kernel_rfl))⟩
  f21 := ⟨Try.f119.name, by decide, Try.func119.trans (congrArg some (by kernel_rfl))⟩
  f22 := ⟨Try.f120.name, by decide, Try.func120.trans (congrArg some (by kernel_rfl))⟩
  f23 := ⟨Try.f121.name, by decide, Try.func121.trans (congrArg some (by kernel_rfl))⟩
  f24 := ⟨Try.f122.name, by decide, Try.func122.trans (congrArg some (by kernel_rfl))⟩
  f25 := ⟨Try.f123.name, by decide, Try.func123.trans (congrArg some (by kernel_rfl))⟩
  f26 := ⟨Try.f124.name, by decide, Try.func124.trans (congrArg some (by kernel_rfl))⟩
  f27 := ⟨Try.f125.name, by decide, Try.func125.trans (congrArg some (by kernel_rfl))⟩
  f28 := Try.func126.trans (congrArg some (by kernel_rfl))
  f29 := Try.func127.trans (congrArg some (by kernel_rfl))
  f46 := ⟨Try.f136.name, by decide, Try.func136.trans (congrArg some (by kernel_rfl))⟩
  f47 := Try.func137.trans (congrArg some (by kernel_rfl))
  f48 := Try.func138.trans (congrArg some (by kernel_rfl))
  f49 := ⟨Try.f139.name, by decide, Try.func139.trans (congrArg some (by kernel_rfl))⟩
  f50 := ⟨Try.f140.name, by decide, Try.func140.trans (congrArg some (by kernel_rfl))⟩
  f57 := ⟨Try.f147.name, by decide, Try.func147.trans (congrArg some (by kernel_rfl))⟩
  t0 := Try.underlying0
  a0 := Try.isAgg0
  z0 := Try.sizeOf0
  v0 := Try.zeroValue0
  t3 := Try.underlying3
  a3 := Try.isAgg3
  z3 := Try.sizeOf3
  v3 := Try.zeroValue3
  t4 := Try.underlying4
  a4 := Try.isAgg4
  z4 := Try.sizeOf4
  v4 := Try.zeroValue4
  t5 := Try.underlying5
  a5 := Try.isAgg5
  z5 := Try.sizeOf5
  v5 := Try.zeroValue5
  t9 := Try.underlying9
  a9 := Try.isAgg9
  z9 := Try.sizeOf9
  v9 := Try.zeroValue9
  t22 := Try.underlying45
  a22 := Try.isAgg45
  z22 := Try.sizeOf45
  v22 := Try.zeroValue45
  t25 := Try.underlying103
  a25 := Try.isAgg103
  z25 := Try.sizeOf103
  v25 := Try.zeroValue103
  t39 := Try.underlying154
  a39 := Try.isAgg154
  z39 := Try.sizeOf154
  v39 := Try.zeroValue154
  t45 := Try.underlying186
  a45 := Try.isAgg186
  z45 := Try.sizeOf186
  v45 := Try.zeroValue186
  t46 := Try.underlying187
  a46 := Try.isAgg187
  z46 := Try.sizeOf187
  v46 := Try.zeroValue187
  t50 := Try.underlying141
  a50 := Try.isAgg141
  z50 := Try.sizeOf141
  v50 := Try.zeroValue141
  t53 := Try.underlying193
  a53 := Try.isAgg193
  z53 := Try.sizeOf193
  v53 := Try.zeroValue193
  t55 := Try.underlying195
  a55 := Try.isAgg195
  z55 := Try.sizeOf195
  v55 := Try.zeroValue195
  t66 := Try.underlying199
  a66 := Try.isAgg199
  z66 := Try.sizeOf199
  v66 := Try.zeroValue199
  t70 := Try.underlying203
  a70 := Try.isAgg203
  z70 := Try.sizeOf203
  v70 := Try.zeroValue203
  t76 := Try.underlying212
  a76 := Try.isAgg212
  z76 := Try.sizeOf212
  v76 := Try.zeroValue212
  t77 := Try.underlying98
  a77 := Try.isAgg98
  z77 := Try.sizeOf98
  v77 := Try.zeroValue98 }
def Try.strCmp_ren : Go.Shelf.Ren := ⟨fun | 106 => 54 | 213 => 85 | 265 => 128 | n => n, fun | 9 => 9 | 3 => 3 | n => n, fun | n => n⟩
theorem Try.strCmp : Go.Proofs.Lays.n106 Try.prog Try.strCmp_ren := {
  mixed := by kernel_rfl
  f106 := Try.func54.trans (congrArg some (by kernel_rfl))
  f213 := Try.func85.trans (congrArg some (by kernel_rfl))
  f265 := Try.func128.trans (congrArg some (by kernel_rfl))
  t3 := Try.underlying3
  a3 := Try.isAgg3
  z3 := Try.sizeOf3
  v3 := Try.zeroValue3
  t9 := Try.underlying9
  a9 := Try.isAgg9
  z9 := Try.sizeOf9
  v9 := Try.zeroValue9 }

set_option maxHeartbeats 1000000 in
theorem Try.closure53 (s s' : ByteArray) (a b c a' b' c' : Value) (W : World) : Calls Try.prog 53 #[.agg #[.string s, a, b, c], .agg #[.string s', a', b', c']] W fun e w' => e = .returned (.int .i64 (Lib.compareBytes s.data.toList s'.data.toList)) ∧ ∃ q os', w' = grow (W.drewN q) os' := by
  have hcon := fun W' => Any.strings_Compare Try.strCmp s s' W'
  change ∀ W', Calls Try.prog 54 _ _ _ at hcon
  generalize Lib.compareBytes s.data.toList s'.data.toList = r at hcon ⊢
  go_enter Try.func53, Try.ntmps53
  go_wp2_with (go_at_call 54; refine (hcon _).mono ?_; rintro e w' ⟨rfl, rfl⟩)
  go_ret
  exact ⟨rfl, 0, _, by rw [alloc_eq_grow, alloc_eq_grow, grow_grow]; rfl⟩
end Go.Proofs

namespace Go.AL.S4
open Go Go.AL

def GoodEl (M : Mem) (q : PV × List Value) : Prop := ∃ (s : List UInt8) (k : Int) (t : List UInt8) (l : List PV) (v3 : Value), q.1 = .agg [.str s, .int .i64 k, .str t, .lst l] ∧ q.2 = [.string (mkStr s), .int .i64 k, .string (mkStr t), v3] ∧ PRep M (.lst l) v3
abbrev El (M : Mem) := {q : PV × List Value // GoodEl M q}
instance (M : Mem) : Inhabited (El M) := ⟨⟨(.agg [.str [], .int .i64 0, .str [], .lst []], [.string (mkStr []), .int .i64 0, .string (mkStr []), .slice none 0 0]), [], 0, [], [], _, rfl, rfl, PRep.weak (p := .nils) .nils⟩⟩
def encE {M : Mem} (q : El M) : List Value := q.1.2
def cfE {M : Mem} (x y : El M) : Int := Lib.compareBytes (bname x.1.1) (bname y.1.1)
theorem encE_len {M : Mem} (q : El M) : (encE q).length = 4 := by
  obtain ⟨⟨p, vs⟩, s, k, t, l, v3, e1, e2, h⟩ := q
  simp only at e2
  subst e2
  rfl
theorem encE_one {M : Mem} (q : El M) : ∀ v, v ∈ encE q → v.oneCell' = true := by
  obtain ⟨⟨p, vs⟩, s, k, t, l, v3, e1, e2, h⟩ := q
  simp only at e2
  subst e2
  intro v hv
  simp only [encE, List.mem_cons, List.not_mem_nil, or_false] at hv
  rcases hv with rfl | rfl | rfl | rfl
  · rfl
  · rfl
  · rfl
  · exact PRep.one h rfl
theorem encE_rel {M : Mem} (q : El M) : q.1.1.cells.length = 4 ∧ (∀ y, y ∈ q.1.1.cells → y.one = true) ∧ ∀ (k : Nat) y, q.1.1.cells[k]? = some y → k < 4 ∧ PRep M y (encE q)[k]! := by
  obtain ⟨⟨p, vs⟩, s, i, t, l, v3, e1, e2, h⟩ := q
  simp only at e1 e2
  subst e1; subst e2
  refine ⟨rfl, by simp [PV.cells, PV.one], fun k y hk => ?_⟩
  match k, hk with
  | 0, hk => obtain rfl := Option.some.inj hk; exact ⟨by omega, .str s⟩
  | 1, hk => obtain rfl := Option.some.inj hk; exact ⟨by omega, .int .i64 i⟩
  | 2, hk => obtain rfl := Option.some.inj hk; exact ⟨by omega, .str t⟩
  | 3, hk => obtain rfl := Option.some.inj hk; exact ⟨by omega, h⟩
  | k + 4, hk => simp [PV.cells] at hk
theorem swoE {M : Mem} : Go.Sort.SWO (Go.Proofs.ltOf (cfE (M := M))) where
  irrefl x := by simp [Go.Proofs.ltOf, cfE, cb_refl]
  trans x y z h1 h2 := by
    exact decide_eq_true (cb_trans (of_decide_eq_true h1) (of_decide_eq_true h2))
  ntrans x y z h1 h2 := by
    exact decide_eq_false (cb_ntrans (of_decide_eq_false h1) (of_decide_eq_false h2))
theorem cmpE {M : Mem} (blk off size : Nat) (w : World) : Go.Proofs.CmpLays Go.Proofs.Try.prog 53 #[] (encE (M := M)) 4 cfE blk off size w := by
  intro m os dk hs x y
  obtain ⟨⟨p, vs⟩, s, k, t, l, v3, e1, e2, h⟩ := x
  obtain ⟨⟨p', vs'⟩, s', k', t', l', v3', e1', e2', h'⟩ := y
  simp only at e1 e2 e1' e2'
  subst e1; subst e2; subst e1'; subst e2'
  have := Go.Proofs.Try.closure53 (mkStr s) (mkStr s') (.int .i64 k) (.string (mkStr t)) v3 (.int .i64 k') (.string (mkStr t')) v3' (Go.Proofs.sortWorldK (encE (M := M)) 4 w blk off m dk os)
  exact this

/-! #### The world behind it -/
section
variable {F : Fr} {w0 : World} {M0 : Mem} {G : Gh} {s : St} {w : World}
theorem srel_drewN (h : SRel F w0 M0 G s w) (n : Nat) : SRel F w0 M0 G s (w.drewN n) :=
  ⟨h.os, h.tape, h.output, h.size, h.old, h.agree, h.base, h.newM, h.own, h.ownM, h.bx, h.vc, h.tp, h.rt, h.rv⟩
theorem srel_growL : ∀ (l : List Obj) {w : World}, SRel F w0 M0 G s w → SRel F w0 M0 G s (Go.Sort.grow w l.toArray)
  | [], w, h => by rw [show ([] : List Obj).toArray = #[] from rfl, Go.Sort.grow_empty]; exact h
  | x :: l, w, h => by
    have e : Go.Sort.grow w (x :: l).toArray = Go.Sort.grow (w.alloc x) l.toArray := by
      rw [Go.Sort.alloc_eq_grow, Go.Sort.grow_grow]
      simp
    rw [e]
    exact srel_growL l (h.alloc x)
theorem srel_grow (h : SRel F w0 M0 G s w) (os : Array Obj) : SRel F w0 M0 G s (Go.Sort.grow w os) := by
  have := srel_growL os.toList h
  simpa using this
end
theorem sortWorld_eq {α : Type} [Inhabited α] (enc : α → List Value) (k : Nat) (w : World) (b o n : Nat) (d : Array α) (os : Array Obj) {ws : Array Value} {T : TypeId} (h : w.heap[b]? = some (.cells ws T (0, 0))) :
    Go.Proofs.sortWorldK enc k w b o n d os = Go.Sort.grow ((w.setRow b (Go.Sort.putCells id o (Go.Sort.flatK enc k d) ws)).drewN n) os := by
  rw [setRow_eq w b ws _ T _ h]
  unfold Go.Proofs.sortWorldK Go.Sort.putRowK Go.Sort.putRow Go.Sort.mapBlock Go.Sort.ahead Go.World.drewN Go.Sort.grow
  simp only
  have : w.heap.modify b (Go.Sort.onCells (Go.Sort.putCells id o (Go.Sort.flatK enc k d))) = w.heap.setIfInBounds b (.cells (Go.Sort.putCells id o (Go.Sort.flatK enc k d) ws) T (0, 0)) := by
    apply Array.ext_getElem?
    intro i
    rw [Array.getElem?_modify, Array.getElem?_setIfInBounds]
    by_cases hi : b = i
    · subst hi
      rw [if_pos rfl, if_pos rfl, h, if_pos (Array.getElem?_eq_some_iff.1 h).1]
      rfl
    · rw [if_neg hi, if_neg hi]
  rw [this]

theorem isBind_of {p : PV} (h : isBind p = true) : ∃ (s : List UInt8) (k : Int) (t : List UInt8) (l : List PV), p = .agg [.str s, .int .i64 k, .str t, .lst l] := by
  unfold isBind at h
  split at h
  · exact ⟨_, _, _, _, rfl⟩
  · cases h

theorem sort_ok : ∀ args out, sortP args = some out → args.all plainArg = true → CSpec Pr 52 args out := by
  intro args out h hpl
  have hbody : HasBody Pr 52 := ⟨Go.Proofs.Try.f52, Go.Proofs.Try.func52, rfl⟩
  have fin : ∀ {F : Fr} {w : World} {M : Mem} {G : Gh} {s : St} {w' : World} {rs : List Ref}, SRel F w M G s w' → refs s = some rs → ∃ v G' s', Ending.returned (Value.tuple #[]) = Ending.returned v ∧ SRel F w M G' s' w' ∧ OutRel G' s' (.pv (.tup []), rs) v ∧ refs s' = some rs :=
    fun {F w M G s w' rs} hS hr => ⟨_, G, s, rfl, hS, PRep.tup [] [] rfl (by simp), hr⟩
  unfold sortP at h
  split at h
  · rename_i sz xs g cap
    replace h := bif_some h; obtain ⟨h1, h⟩ := h
    simp only [Bool.and_eq_true] at h1
    obtain ⟨c1, c2, c3, c4, c5, c6⟩ := h1
    have e1 := beq_eq c1
    have e2 := beq_eq c2
    have e3 : cap = [] := by simpa using c3
    subst e1; subst e2; subst e3
    have hlen := of_decide_eq_true c6
    obtain rfl := Option.some.inj h
    refine ⟨hbody, fun F M G w vs hS hFr => ?_⟩
    have hent : enter [.vec 4 xs, .pv (.fn 53 [])] = ([.vec 0 0, .pv (.fn 53 [])], ⟨[], [some (0, 4, xs)], [], 0, 1⟩) := rfl
    rw [hent] at hS hFr
    simp only at hS hFr
    obtain ⟨u0, u1, rfl⟩ : ∃ u0 u1, vs = #[u0, u1] := by
      have := hFr.1
      simp at this
      match vs, this with
      | ⟨[u0, u1]⟩, _ => exact ⟨u0, u1, rfl⟩
    have hu0 : u0 = .slice (G.ν 0).A xs.length (G.ν 0).cap := ((hFr.2 0 _ u0 rfl rfl).2.2 0 (4, xs) rfl).2 rfl
    have hu1 : u1 = .func (.func 53) #[] #[] := by
      have := hFr.2 1 _ u1 rfl rfl
      have hp : PRep G.M (.fn 53 []) u1 := this
      cases hp with
      | fn f cap vs hl hr =>
        have : vs = [] := List.eq_nil_of_length_eq_zero (by simpa using hl)
        subst this; rfl
    subst hu1
    obtain ⟨⟨r0, r0'⟩, r1, r2⟩ := hS.vc 0 0 4 xs rfl
    rcases r2 with ⟨k1, k2, rfl⟩ | ⟨b, o, ws, T, k1, k2, k3, k4, k5, k6⟩
    · rw [k1, k2] at hu0
      subst hu0
      have hcon := Go.Proofs.AnyF.slices_SortFunc_none Go.Proofs.Try.sortBind none 0 (.func (.func 53) #[] #[]) w
      change Calls Go.Proofs.Try.prog 52 _ _ _ at hcon
      refine hcon.mono ?_
      rintro e w' ⟨rfl, rfl⟩
      exact fin hS rfl
    · rw [k1] at hu0
      subst hu0
      rw [r0] at k4 k6
      have hel : ∀ j : Fin xs.length, ∃ q : El G.M, q.1.1 = xs[j] ∧ ∀ k, k < 4 → ws[o + (j.1 * 4 + k)]? = some (encE q)[k]! := by
        intro j
        have hx : xs[j.1]? = some xs[j] := List.getElem?_eq_getElem j.2
        obtain ⟨s, k, t, l, hp⟩ := isBind_of (List.all_eq_true.1 c4 _ (List.getElem_mem j.2))
        have hp' : xs[j] = .agg [.str s, .int .i64 k, .str t, .lst l] := hp
        rw [hp'] at hx ⊢
        obtain ⟨v0, g0, q0⟩ := k6 j.1 _ 0 _ hx rfl
        obtain ⟨v1, g1, q1⟩ := k6 j.1 _ 1 _ hx rfl
        obtain ⟨v2, g2, q2⟩ := k6 j.1 _ 2 _ hx rfl
        obtain ⟨v3, g3, q3⟩ := k6 j.1 _ 3 _ hx rfl
        cases q0; cases q1; cases q2
        refine ⟨⟨(.agg [.str s, .int .i64 k, .str t, .lst l], [.string (mkStr s), .int .i64 k, .string (mkStr t), v3]), s, k, t, l, v3, rfl, rfl, q3⟩, rfl, fun m hm => ?_⟩
        match m, hm with
        | 0, _ => exact g0
        | 1, _ => exact g1
        | 2, _ => exact g2
        | 3, _ => exact g3
        | m + 4, hm => omega
      let d : Array (El G.M) := Array.ofFn fun j : Fin xs.length => Classical.choose (hel j)
      have hds : d.size = xs.length := by simp [d]
      have hd : ∀ j (hj : j < xs.length), (d[j]!).1.1 = xs[j] ∧ ∀ k, k < 4 → ws[o + (j * 4 + k)]? = some (encE d[j]!)[k]! := fun j hj => by
        have : d[j]! = Classical.choose (hel ⟨j, hj⟩) := by
          rw [getElem!_pos d j (by rw [hds]; exact hj)]
          simp [d]
        rw [this]
        exact Classical.choose_spec (hel ⟨j, hj⟩)
      have hdl : d.toList.map (fun q => q.1.1) = xs := by
        apply List.ext_getElem
        · simp [hds]
        · intro j h1 h2
          have := (hd j h2).1
          rw [getElem!_pos d j (by rw [hds]; exact h2)] at this
          simpa using this
      have hH : Go.Sort.HoldsK encE 4 w b o d := by
        intro j hj
        rw [Go.Sort.size_flatK] at hj
        rw [Go.Sort.get_flatK encE 4 d j hj]
        have hdiv : j / 4 < xs.length := by rw [hds] at hj; omega
        have := (hd (j / 4) hdiv).2 (j % 4) (by omega)
        rw [show j / 4 * 4 + j % 4 = j by omega] at this
        refine ⟨?_, ?_⟩
        · simp [World.cell?, k3, this]
        · simp [World.frozen?, k3]
      have hblk : b < w.heap.size := (Array.getElem?_eq_some_iff.1 k3).1
      have eg : ∀ args w, (callFunc 53 args).run Go.Proofs.Try.prog w = .ok (.enter 53 args) w := fun args w => run_callFunc fok ⟨Go.Proofs.Try.f53, Go.Proofs.Try.func53, rfl⟩ args w
      have hcon := Go.Proofs.AnyQ.slices_SortFunc Go.Proofs.Try.sortBind 4 Go.Proofs.Try.isAgg52 Go.Proofs.Try.sizeOf52 encE encE_len encE_one cfE swoE 53 #[] b o (G.ν 0).cap d w eg (cmpE b o d.size w) hH hblk (by rw [hds]; exact hlen)
      change Calls Go.Proofs.Try.prog 52 _ _ _ at hcon
      rw [hds] at hcon
      refine hcon.mono ?_
      rintro e w' ⟨rfl, d', n, os, hp, hs, rfl⟩
      obtain ⟨p1, _, p3⟩ := hp
      have hd's : d'.size = xs.length := by rw [p1, hds]
      have hperm : (d'.toList.map fun q : El G.M => q.1.1).Perm xs := by
        have q1 : d'.extract 0 xs.length = d' := by rw [← hd's]; simp
        have q2 : d.extract 0 xs.length = d := by rw [← hds]; simp
        rw [q1, q2] at p3
        have := p3.map fun q : El G.M => q.1.1
        rwa [hdl] at this
      have hsrt : Srt (d'.toList.map fun q : El G.M => q.1.1) := by
        unfold Srt
        rw [List.pairwise_map, List.pairwise_iff_getElem]
        intro i j hi hj hij
        simp only [Array.length_toList] at hi hj
        have := hs i j (Nat.zero_le _) hij (by rw [← hd's]; exact hj)
        rw [getElem!_pos d' j hj, getElem!_pos d' i hi] at this
        simp only [Array.getElem_toList]
        exact decide_eq_false (of_decide_eq_false this)
      have hz := sort_unique c5 hperm hsrt
      rw [sortWorld_eq encE 4 w b o n d' os k3]
      have hsz : (Go.Sort.putCells id o (Go.Sort.flatK encE 4 d') ws).size = ws.size := by simp [Go.Sort.putCells]
      have upd := (hS.updVec (xs' := sortB xs) (vs' := Go.Sort.putCells id o (Go.Sort.flatK encE 4 d') ws) rfl k1 k2 k3 hsz (by rw [← hz]; simp [hd's]) (fun x hx => by
          rw [← hz] at hx
          obtain ⟨q, hq, rfl⟩ := List.mem_map.1 hx
          exact ⟨(encE_rel q).1, (encE_rel q).2.1⟩)
        (fun j x k y h3 h4 => by
          rw [← hz] at h3
          have hj : j < d'.size := by have := (List.getElem?_eq_some_iff.1 h3).1; simpa using this
          have hx : x = (d'[j]!).1.1 := by
            rw [getElem!_pos d' j hj]
            simp [List.getElem?_map, hj] at h3
            exact h3.symm
          subst hx
          obtain ⟨hk, hr⟩ := (encE_rel d'[j]!).2.2 k y h4
          have ht : j * 4 + k < d'.size * 4 := by omega
          have hin : o + (j * 4 + k) < ws.size := by have : xs.length ≤ (G.ν 0).cap := k5; omega
          refine ⟨(encE d'[j]!)[k]!, ?_, hr⟩
          unfold Go.Sort.putCells
          rw [Array.getElem?_mapIdx, Array.getElem?_eq_getElem hin, Option.map_some, if_pos ⟨by omega, by rw [Go.Sort.size_flatK]; omega⟩]
          rw [show o + (j * 4 + k) - o = j * 4 + k by omega, Go.Sort.get_flatK encE 4 d' _ ht, show (j * 4 + k) / 4 = j by omega, show (j * 4 + k) % 4 = k by omega]
          rfl)).1
      exact fin (srel_grow (srel_drewN upd n) os) rfl
  · rename_i xs g cap
    replace h := bif_some h; obtain ⟨h1, h⟩ := h
    simp only [Bool.and_eq_true] at h1
    obtain ⟨c1, c2, c3⟩ := h1
    have e1 : xs = [] := by simpa using c1
    have e2 := beq_eq c2
    have e3 : cap = [] := by simpa using c3
    subst e1; subst e2; subst e3
    obtain rfl := Option.some.inj h
    refine ⟨hbody, fun F M G w vs hS hFr => ?_⟩
    have hent : enter [.pv (.lst []), .pv (.fn 53 [])] = ([.pv (.lst []), .pv (.fn 53 [])], ⟨[], [], [], 0, 0⟩) := rfl
    rw [hent] at hS hFr
    simp only at hS hFr
    obtain ⟨u0, u1, rfl⟩ : ∃ u0 u1, vs = #[u0, u1] := by
      have := hFr.1
      simp at this
      match vs, this with
      | ⟨[u0, u1]⟩, _ => exact ⟨u0, u1, rfl⟩
    have hp0 : PRep G.M (.lst []) u0 := hFr.2 0 _ u0 rfl rfl
    obtain ⟨A, cap, rfl⟩ : ∃ A cap, u0 = .slice A 0 cap := by cases hp0; exact ⟨_, _, rfl⟩
    have hcon := Go.Proofs.AnyF.slices_SortFunc_none Go.Proofs.Try.sortBind A cap u1 w
    change Calls Go.Proofs.Try.prog 52 _ _ _ at hcon
    refine hcon.mono ?_
    rintro e w' ⟨rfl, rfl⟩
    exact fin hS rfl
  · cases h
theorem snd (n : Nat) : CallOk Pr (acall Pr T n) := sound tok fok mixed (prims sort_ok) n
theorem e52 (xs : List PV) : V 52 [.vec 4 xs, .pv (.fn 53 [])] = sortP [.vec 4 xs, .pv (.fn 53 [])] := V_prim pa (g := fun _ => sortP) rfl _
theorem e52n : V 52 [.pv (.lst []), .pv (.fn 53 [])] = some (.pv (.tup []), []) := V_prim pa (g := fun _ => sortP) rfl _
end Go.AL.S4
