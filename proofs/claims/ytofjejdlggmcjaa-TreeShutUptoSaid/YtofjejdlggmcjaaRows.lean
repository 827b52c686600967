/-
  NARROWER THAN 'FOR EVERY INPUT', by the rows' own cells (each row's printed sentence says how): KindMore: loops · KindPut: loops · ScopeMore: loops · EffectMore: loops · TreeWhole: loops · EffectLeast: loops · TreeShut: loops.
  DERIVED. THE GIVEN ROWS OF THIS SEAT. 15 by the template 'for every input the law returns true; each argument reads behind the call as it read before'; 0 by the template 'total and deterministic' (their statements: YtofjejdlggmcjaaTotals.lean).
  GIVEN WITH THE SEED: the statements are not yours to turn. If you find one false, say at which input.
  Laid BY PROGRAM, IN A SANDBOX (cutbox-rows.mjs): the forced cells as the released guide's own fill.sh prints them over the translation 90d8485ad8f501c6… (all of the seat's roots in one cut). By AI agents, Wed Nov 11 2026. No macro, syntax, notation, axiom, sorry.
-/
import Derived.Test.YtofjejdlggmcjaaChecked
import GoSem.Claim
import GoSem.ClaimJoined
import GoSem.ClaimMapViews
import Derived.JoinedTies
import Derived.KernelRfl
namespace Go.Proofs.Ytofjejdlggmcjaa
/- THE CELL 'sum', in the pinned program and in every row, IS THE sha256 OF THE DUMP (.gsa) THAT YtofjejdlggmcjaaProg.lean LOADS. Nothing in Lean hashes anything: it is a label: what it is worth is what the hold of that sum in a sandbox is worth. -/
noncomputable def Try.pinned : Pinned := { name := "ytofjejdlggmcjaa", sum := "90d8485ad8f501c619726c61cb429969edee3ba704d759c8af30c55d83dba8c5", checked := Try.checked }
namespace Rows
def none {H : Type} : Left H := { results := [], args := [] }

/-- 'roadkeep2.KindMore': WHATEVER THE INPUT: true; the input reads as it did. -/
def kindMoreSpec : ChangeSpec := { name := "kindMore", fn := fun _ => fun
  | [d1, d2, d3, d4] => { results := [.lit (.bool true)], args := [d1, d2, d3, d4] }
  | _ => none }
def kindMoreRow : OpenClaim := { program := "ytofjejdlggmcjaa", sum := "90d8485ad8f501c619726c61cb429969edee3ba704d759c8af30c55d83dba8c5", func := "roadstead/roadkeep2.KindMore", spec := "kindMore", recurses := true, loops := true, plainKeys := false, apart := false }
def KindMoreSaid : Prop := kindMoreRow.holds Try.pinned (OpenSpec.ofChange kindMoreSpec)

/-- ITS FALSE NEIGHBOUR: 'it returns false'. Refute it at one input. -/
def kindMoreWrong : ChangeSpec := { name := "kindMore", fn := fun _ => fun
  | [d1, d2, d3, d4] => { results := [.lit (.bool false)], args := [d1, d2, d3, d4] }
  | _ => none }
def KindMoreWrongFalsely : Prop := kindMoreRow.holds Try.pinned (OpenSpec.ofChange kindMoreWrong)

/-- 'roadkeep2.TalkOrder': WHATEVER THE INPUT: true; the input reads as it did. -/
def talkOrderSpec : ChangeSpec := { name := "talkOrder", fn := fun _ => fun
  | [d1, d2, d3] => { results := [.lit (.bool true)], args := [d1, d2, d3] }
  | _ => none }
def talkOrderRow : OpenClaim := { program := "ytofjejdlggmcjaa", sum := "90d8485ad8f501c619726c61cb429969edee3ba704d759c8af30c55d83dba8c5", func := "roadstead/roadkeep2.TalkOrder", spec := "talkOrder", plainKeys := false, apart := false }
def TalkOrderSaid : Prop := talkOrderRow.holds Try.pinned (OpenSpec.ofChange talkOrderSpec)

/-- ITS FALSE NEIGHBOUR: 'it returns false'. Refute it at one input. -/
def talkOrderWrong : ChangeSpec := { name := "talkOrder", fn := fun _ => fun
  | [d1, d2, d3] => { results := [.lit (.bool false)], args := [d1, d2, d3] }
  | _ => none }
def TalkOrderWrongFalsely : Prop := talkOrderRow.holds Try.pinned (OpenSpec.ofChange talkOrderWrong)

/-- 'roadkeep2.SessionAfter': WHATEVER THE INPUT: true; the input reads as it did. -/
def sessionAfterSpec : ChangeSpec := { name := "sessionAfter", fn := fun _ => fun
  | [d1, d2] => { results := [.lit (.bool true)], args := [d1, d2] }
  | _ => none }
def sessionAfterRow : OpenClaim := { program := "ytofjejdlggmcjaa", sum := "90d8485ad8f501c619726c61cb429969edee3ba704d759c8af30c55d83dba8c5", func := "roadstead/roadkeep2.SessionAfter", spec := "sessionAfter", plainKeys := false, apart := false }
def SessionAfterSaid : Prop := sessionAfterRow.holds Try.pinned (OpenSpec.ofChange sessionAfterSpec)

/-- ITS FALSE NEIGHBOUR: 'it returns false'. Refute it at one input. -/
def sessionAfterWrong : ChangeSpec := { name := "sessionAfter", fn := fun _ => fun
  | [d1, d2] => { results := [.lit (.bool false)], args := [d1, d2] }
  | _ => none }
def SessionAfterWrongFalsely : Prop := sessionAfterRow.holds Try.pinned (OpenSpec.ofChange sessionAfterWrong)

/-- 'roadkeep2.KindPut': WHATEVER THE INPUT: true; the input reads as it did. -/
def kindPutSpec : ChangeSpec := { name := "kindPut", fn := fun _ => fun
  | [d1, d2, d3, d4] => { results := [.lit (.bool true)], args := [d1, d2, d3, d4] }
  | _ => none }
def kindPutRow : OpenClaim := { program := "ytofjejdlggmcjaa", sum := "90d8485ad8f501c619726c61cb429969edee3ba704d759c8af30c55d83dba8c5", func := "roadstead/roadkeep2.KindPut", spec := "kindPut", unfollowed := true, recurses := true, loops := true, plainKeys := false, apart := false }
def KindPutSaid : Prop := kindPutRow.holds Try.pinned (OpenSpec.ofChange kindPutSpec)

/-- ITS FALSE NEIGHBOUR: 'it returns false'. Refute it at one input. -/
def kindPutWrong : ChangeSpec := { name := "kindPut", fn := fun _ => fun
  | [d1, d2, d3, d4] => { results := [.lit (.bool false)], args := [d1, d2, d3, d4] }
  | _ => none }
def KindPutWrongFalsely : Prop := kindPutRow.holds Try.pinned (OpenSpec.ofChange kindPutWrong)

/-- 'roadkeep2.TalkWaits': WHATEVER THE INPUT: true; the input reads as it did. -/
def talkWaitsSpec : ChangeSpec := { name := "talkWaits", fn := fun _ => fun
  | [d1, d2] => { results := [.lit (.bool true)], args := [d1, d2] }
  | _ => none }
def talkWaitsRow : OpenClaim := { program := "ytofjejdlggmcjaa", sum := "90d8485ad8f501c619726c61cb429969edee3ba704d759c8af30c55d83dba8c5", func := "roadstead/roadkeep2.TalkWaits", spec := "talkWaits", plainKeys := false, apart := false }
def TalkWaitsSaid : Prop := talkWaitsRow.holds Try.pinned (OpenSpec.ofChange talkWaitsSpec)

/-- ITS FALSE NEIGHBOUR: 'it returns false'. Refute it at one input. -/
def talkWaitsWrong : ChangeSpec := { name := "talkWaits", fn := fun _ => fun
  | [d1, d2] => { results := [.lit (.bool false)], args := [d1, d2] }
  | _ => none }
def TalkWaitsWrongFalsely : Prop := talkWaitsRow.holds Try.pinned (OpenSpec.ofChange talkWaitsWrong)

/-- 'roadkeep2.TalkTurned': WHATEVER THE INPUT: true; the input reads as it did. -/
def talkTurnedSpec : ChangeSpec := { name := "talkTurned", fn := fun _ => fun
  | [d1, d2] => { results := [.lit (.bool true)], args := [d1, d2] }
  | _ => none }
def talkTurnedRow : OpenClaim := { program := "ytofjejdlggmcjaa", sum := "90d8485ad8f501c619726c61cb429969edee3ba704d759c8af30c55d83dba8c5", func := "roadstead/roadkeep2.TalkTurned", spec := "talkTurned", unfollowed := true, recurses := true, plainKeys := false, apart := false }
def TalkTurnedSaid : Prop := talkTurnedRow.holds Try.pinned (OpenSpec.ofChange talkTurnedSpec)

/-- ITS FALSE NEIGHBOUR: 'it returns false'. Refute it at one input. -/
def talkTurnedWrong : ChangeSpec := { name := "talkTurned", fn := fun _ => fun
  | [d1, d2] => { results := [.lit (.bool false)], args := [d1, d2] }
  | _ => none }
def TalkTurnedWrongFalsely : Prop := talkTurnedRow.holds Try.pinned (OpenSpec.ofChange talkTurnedWrong)

/-- 'roadkeep2.SessionOrder': WHATEVER THE INPUT: true; the input reads as it did. -/
def sessionOrderSpec : ChangeSpec := { name := "sessionOrder", fn := fun _ => fun
  | [d1, d2, d3] => { results := [.lit (.bool true)], args := [d1, d2, d3] }
  | _ => none }
def sessionOrderRow : OpenClaim := { program := "ytofjejdlggmcjaa", sum := "90d8485ad8f501c619726c61cb429969edee3ba704d759c8af30c55d83dba8c5", func := "roadstead/roadkeep2.SessionOrder", spec := "sessionOrder", plainKeys := false, apart := false }
def SessionOrderSaid : Prop := sessionOrderRow.holds Try.pinned (OpenSpec.ofChange sessionOrderSpec)

/-- ITS FALSE NEIGHBOUR: 'it returns false'. Refute it at one input. -/
def sessionOrderWrong : ChangeSpec := { name := "sessionOrder", fn := fun _ => fun
  | [d1, d2, d3] => { results := [.lit (.bool false)], args := [d1, d2, d3] }
  | _ => none }
def SessionOrderWrongFalsely : Prop := sessionOrderRow.holds Try.pinned (OpenSpec.ofChange sessionOrderWrong)

/-- 'roadkeep2.SessionDual': WHATEVER THE INPUT: true; the input reads as it did. -/
def sessionDualSpec : ChangeSpec := { name := "sessionDual", fn := fun _ => fun
  | [d1, d2] => { results := [.lit (.bool true)], args := [d1, d2] }
  | _ => none }
def sessionDualRow : OpenClaim := { program := "ytofjejdlggmcjaa", sum := "90d8485ad8f501c619726c61cb429969edee3ba704d759c8af30c55d83dba8c5", func := "roadstead/roadkeep2.SessionDual", spec := "sessionDual", unfollowed := true, recurses := true, plainKeys := false, apart := false }
def SessionDualSaid : Prop := sessionDualRow.holds Try.pinned (OpenSpec.ofChange sessionDualSpec)

/-- ITS FALSE NEIGHBOUR: 'it returns false'. Refute it at one input. -/
def sessionDualWrong : ChangeSpec := { name := "sessionDual", fn := fun _ => fun
  | [d1, d2] => { results := [.lit (.bool false)], args := [d1, d2] }
  | _ => none }
def SessionDualWrongFalsely : Prop := sessionDualRow.holds Try.pinned (OpenSpec.ofChange sessionDualWrong)

/-- 'roadkeep2.ScopeMore': WHATEVER THE INPUT: true; the input reads as it did. -/
def scopeMoreSpec : ChangeSpec := { name := "scopeMore", fn := fun _ => fun
  | [d1, d2, d3] => { results := [.lit (.bool true)], args := [d1, d2, d3] }
  | _ => none }
def scopeMoreRow : OpenClaim := { program := "ytofjejdlggmcjaa", sum := "90d8485ad8f501c619726c61cb429969edee3ba704d759c8af30c55d83dba8c5", func := "roadstead/roadkeep2.ScopeMore", spec := "scopeMore", unfollowed := true, recurses := true, loops := true, plainKeys := false, apart := false }
def ScopeMoreSaid : Prop := scopeMoreRow.holds Try.pinned (OpenSpec.ofChange scopeMoreSpec)

/-- ITS FALSE NEIGHBOUR: 'it returns false'. Refute it at one input. -/
def scopeMoreWrong : ChangeSpec := { name := "scopeMore", fn := fun _ => fun
  | [d1, d2, d3] => { results := [.lit (.bool false)], args := [d1, d2, d3] }
  | _ => none }
def ScopeMoreWrongFalsely : Prop := scopeMoreRow.holds Try.pinned (OpenSpec.ofChange scopeMoreWrong)

/-- 'roadkeep2.TokenPlaces': WHATEVER THE INPUT: true; the input reads as it did. -/
def tokenPlacesSpec : ChangeSpec := { name := "tokenPlaces", fn := fun _ => fun
  | [d] => { results := [.lit (.bool true)], args := [d] }
  | _ => none }
def tokenPlacesRow : OpenClaim := { program := "ytofjejdlggmcjaa", sum := "90d8485ad8f501c619726c61cb429969edee3ba704d759c8af30c55d83dba8c5", func := "roadstead/roadkeep2.TokenPlaces", spec := "tokenPlaces", plainKeys := false, apart := false }
def TokenPlacesSaid : Prop := tokenPlacesRow.holds Try.pinned (OpenSpec.ofChange tokenPlacesSpec)

/-- ITS FALSE NEIGHBOUR: 'it returns false'. Refute it at one input. -/
def tokenPlacesWrong : ChangeSpec := { name := "tokenPlaces", fn := fun _ => fun
  | [d] => { results := [.lit (.bool false)], args := [d] }
  | _ => none }
def TokenPlacesWrongFalsely : Prop := tokenPlacesRow.holds Try.pinned (OpenSpec.ofChange tokenPlacesWrong)

/-- 'roadkeep2.EffectMore': WHATEVER THE INPUT: true; the input reads as it did. -/
def effectMoreSpec : ChangeSpec := { name := "effectMore", fn := fun _ => fun
  | [d1, d2] => { results := [.lit (.bool true)], args := [d1, d2] }
  | _ => none }
def effectMoreRow : OpenClaim := { program := "ytofjejdlggmcjaa", sum := "90d8485ad8f501c619726c61cb429969edee3ba704d759c8af30c55d83dba8c5", func := "roadstead/roadkeep2.EffectMore", spec := "effectMore", unfollowed := true, recurses := true, loops := true, plainKeys := false, apart := false }
def EffectMoreSaid : Prop := effectMoreRow.holds Try.pinned (OpenSpec.ofChange effectMoreSpec)

/-- ITS FALSE NEIGHBOUR: 'it returns false'. Refute it at one input. -/
def effectMoreWrong : ChangeSpec := { name := "effectMore", fn := fun _ => fun
  | [d1, d2] => { results := [.lit (.bool false)], args := [d1, d2] }
  | _ => none }
def EffectMoreWrongFalsely : Prop := effectMoreRow.holds Try.pinned (OpenSpec.ofChange effectMoreWrong)

/-- 'roadkeep2.TreeWhole': WHATEVER THE INPUT: true; the input reads as it did. -/
def treeWholeSpec : ChangeSpec := { name := "treeWhole", fn := fun _ => fun
  | [d] => { results := [.lit (.bool true)], args := [d] }
  | _ => none }
def treeWholeRow : OpenClaim := { program := "ytofjejdlggmcjaa", sum := "90d8485ad8f501c619726c61cb429969edee3ba704d759c8af30c55d83dba8c5", func := "roadstead/roadkeep2.TreeWhole", spec := "treeWhole", recurses := true, loops := true, plainKeys := false, apart := false }
def TreeWholeSaid : Prop := treeWholeRow.holds Try.pinned (OpenSpec.ofChange treeWholeSpec)

/-- ITS FALSE NEIGHBOUR: 'it returns false'. Refute it at one input. -/
def treeWholeWrong : ChangeSpec := { name := "treeWhole", fn := fun _ => fun
  | [d] => { results := [.lit (.bool false)], args := [d] }
  | _ => none }
def TreeWholeWrongFalsely : Prop := treeWholeRow.holds Try.pinned (OpenSpec.ofChange treeWholeWrong)

/-- 'roadkeep2.EffectLeast': WHATEVER THE INPUT: true; the input reads as it did. -/
def effectLeastSpec : ChangeSpec := { name := "effectLeast", fn := fun _ => fun
  | [d] => { results := [.lit (.bool true)], args := [d] }
  | _ => none }
def effectLeastRow : OpenClaim := { program := "ytofjejdlggmcjaa", sum := "90d8485ad8f501c619726c61cb429969edee3ba704d759c8af30c55d83dba8c5", func := "roadstead/roadkeep2.EffectLeast", spec := "effectLeast", unfollowed := true, recurses := true, loops := true, plainKeys := false, apart := false }
def EffectLeastSaid : Prop := effectLeastRow.holds Try.pinned (OpenSpec.ofChange effectLeastSpec)

/-- ITS FALSE NEIGHBOUR: 'it returns false'. Refute it at one input. -/
def effectLeastWrong : ChangeSpec := { name := "effectLeast", fn := fun _ => fun
  | [d] => { results := [.lit (.bool false)], args := [d] }
  | _ => none }
def EffectLeastWrongFalsely : Prop := effectLeastRow.holds Try.pinned (OpenSpec.ofChange effectLeastWrong)

/-- 'roadkeep2.TreeShut': WHATEVER THE INPUT: true; the input reads as it did. -/
def treeShutSpec : ChangeSpec := { name := "treeShut", fn := fun _ => fun
  | [d1, d2] => { results := [.lit (.bool true)], args := [d1, d2] }
  | _ => none }
def treeShutRow : OpenClaim := { program := "ytofjejdlggmcjaa", sum := "90d8485ad8f501c619726c61cb429969edee3ba704d759c8af30c55d83dba8c5", func := "roadstead/roadkeep2.TreeShut", spec := "treeShut", unfollowed := true, recurses := true, loops := true, plainKeys := false, apart := false }
def TreeShutSaid : Prop := treeShutRow.holds Try.pinned (OpenSpec.ofChange treeShutSpec)

/-- ITS FALSE NEIGHBOUR: 'it returns false'. Refute it at one input. -/
def treeShutWrong : ChangeSpec := { name := "treeShut", fn := fun _ => fun
  | [d1, d2] => { results := [.lit (.bool false)], args := [d1, d2] }
  | _ => none }
def TreeShutWrongFalsely : Prop := treeShutRow.holds Try.pinned (OpenSpec.ofChange treeShutWrong)

/-- 'roadkeep2.TalkGoes': WHATEVER THE INPUT: true; the input reads as it did. -/
def talkGoesSpec : ChangeSpec := { name := "talkGoes", fn := fun _ => fun
  | [d1, d2] => { results := [.lit (.bool true)], args := [d1, d2] }
  | _ => none }
def talkGoesRow : OpenClaim := { program := "ytofjejdlggmcjaa", sum := "90d8485ad8f501c619726c61cb429969edee3ba704d759c8af30c55d83dba8c5", func := "roadstead/roadkeep2.TalkGoes", spec := "talkGoes", unfollowed := true, recurses := true, plainKeys := false, apart := false }
def TalkGoesSaid : Prop := talkGoesRow.holds Try.pinned (OpenSpec.ofChange talkGoesSpec)

/-- ITS FALSE NEIGHBOUR: 'it returns false'. Refute it at one input. -/
def talkGoesWrong : ChangeSpec := { name := "talkGoes", fn := fun _ => fun
  | [d1, d2] => { results := [.lit (.bool false)], args := [d1, d2] }
  | _ => none }
def TalkGoesWrongFalsely : Prop := talkGoesRow.holds Try.pinned (OpenSpec.ofChange talkGoesWrong)

/- THE SECOND FORM. 'bulk': how many values and letters a reading holds, each counted each time it is reached (what is shared counts as often as it is met; a slice's spare places count too). A statement '..UptoSaid' is the law's where the arguments, and the package variables that the reading takes, are together of bulk at most 1048576: NARROWER than '..Said'. Prove '..Said' where nothing that the law and all that it calls make is longer than what came in: it says more and counts as full. Else prove '..UptoSaid'. A law counts once. -/
mutual
def uptoBulk {H : Type} : DataW H → Nat
  | .lit (.string bytes) => bytes.length + 1
  | .lit _ => 1
  | .nil => 1
  | .ptr d => uptoBulk d + 1
  | .slice elems spare => uptoBulkAll elems + uptoBulkAll spare + 1
  | .agg parts => uptoBulkAll parts + 1
  | .iface _ d => uptoBulk d + 1
  | .map entries => uptoBulkEntries entries + 1
  | .held _ => 1
def uptoBulkAll {H : Type} : List (DataW H) → Nat
  | [] => 0
  | d :: r => uptoBulk d + uptoBulkAll r
def uptoBulkEntries {H : Type} : List (Lit × DataW H) → Nat
  | [] => 0
  | x :: r => uptoBulkEntry x + uptoBulkEntries r
def uptoBulkEntry {H : Type} : Lit × DataW H → Nat
  | (.string bytes, d) => bytes.length + uptoBulk d + 1
  | (_, d) => uptoBulk d + 1
 end
def uptoSmall : (H : Type) → List (DataW H) → Bool := fun _ ds => decide (uptoBulkAll ds ≤ 1048576)
def OpenSpec.upto (s : _root_.Go.ChangeSpec) : _root_.Go.OpenSpec := { _root_.Go.OpenSpec.ofChange s with cond := some uptoSmall }

/-- 'roadkeep2.KindMore', WHERE WHAT IT READS IS OF BULK AT MOST 1048576: true; the input reads as it did. -/
def kindMoreUptoRow : OpenClaim := { program := "ytofjejdlggmcjaa", sum := "90d8485ad8f501c619726c61cb429969edee3ba704d759c8af30c55d83dba8c5", func := "roadstead/roadkeep2.KindMore", spec := "kindMore", recurses := true, loops := true, plainKeys := false, apart := false, narrowed := true }
def KindMoreUptoSaid : Prop := kindMoreUptoRow.holds Try.pinned (OpenSpec.upto kindMoreSpec)

/-- 'roadkeep2.TalkOrder', WHERE WHAT IT READS IS OF BULK AT MOST 1048576: true; the input reads as it did. -/
def talkOrderUptoRow : OpenClaim := { program := "ytofjejdlggmcjaa", sum := "90d8485ad8f501c619726c61cb429969edee3ba704d759c8af30c55d83dba8c5", func := "roadstead/roadkeep2.TalkOrder", spec := "talkOrder", plainKeys := false, apart := false, narrowed := true }
def TalkOrderUptoSaid : Prop := talkOrderUptoRow.holds Try.pinned (OpenSpec.upto talkOrderSpec)

/-- 'roadkeep2.SessionAfter', WHERE WHAT IT READS IS OF BULK AT MOST 1048576: true; the input reads as it did. -/
def sessionAfterUptoRow : OpenClaim := { program := "ytofjejdlggmcjaa", sum := "90d8485ad8f501c619726c61cb429969edee3ba704d759c8af30c55d83dba8c5", func := "roadstead/roadkeep2.SessionAfter", spec := "sessionAfter", plainKeys := false, apart := false, narrowed := true }
def SessionAfterUptoSaid : Prop := sessionAfterUptoRow.holds Try.pinned (OpenSpec.upto sessionAfterSpec)

/-- 'roadkeep2.KindPut', WHERE WHAT IT READS IS OF BULK AT MOST 1048576: true; the input reads as it did. -/
def kindPutUptoRow : OpenClaim := { program := "ytofjejdlggmcjaa", sum := "90d8485ad8f501c619726c61cb429969edee3ba704d759c8af30c55d83dba8c5", func := "roadstead/roadkeep2.KindPut", spec := "kindPut", unfollowed := true, recurses := true, loops := true, plainKeys := false, apart := false, narrowed := true }
def KindPutUptoSaid : Prop := kindPutUptoRow.holds Try.pinned (OpenSpec.upto kindPutSpec)

/-- 'roadkeep2.TalkWaits', WHERE WHAT IT READS IS OF BULK AT MOST 1048576: true; the input reads as it did. -/
def talkWaitsUptoRow : OpenClaim := { program := "ytofjejdlggmcjaa", sum := "90d8485ad8f501c619726c61cb429969edee3ba704d759c8af30c55d83dba8c5", func := "roadstead/roadkeep2.TalkWaits", spec := "talkWaits", plainKeys := false, apart := false, narrowed := true }
def TalkWaitsUptoSaid : Prop := talkWaitsUptoRow.holds Try.pinned (OpenSpec.upto talkWaitsSpec)

/-- 'roadkeep2.TalkTurned', WHERE WHAT IT READS IS OF BULK AT MOST 1048576: true; the input reads as it did. -/
def talkTurnedUptoRow : OpenClaim := { program := "ytofjejdlggmcjaa", sum := "90d8485ad8f501c619726c61cb429969edee3ba704d759c8af30c55d83dba8c5", func := "roadstead/roadkeep2.TalkTurned", spec := "talkTurned", unfollowed := true, recurses := true, plainKeys := false, apart := false, narrowed := true }
def TalkTurnedUptoSaid : Prop := talkTurnedUptoRow.holds Try.pinned (OpenSpec.upto talkTurnedSpec)

/-- 'roadkeep2.SessionOrder', WHERE WHAT IT READS IS OF BULK AT MOST 1048576: true; the input reads as it did. -/
def sessionOrderUptoRow : OpenClaim := { program := "ytofjejdlggmcjaa", sum := "90d8485ad8f501c619726c61cb429969edee3ba704d759c8af30c55d83dba8c5", func := "roadstead/roadkeep2.SessionOrder", spec := "sessionOrder", plainKeys := false, apart := false, narrowed := true }
def SessionOrderUptoSaid : Prop := sessionOrderUptoRow.holds Try.pinned (OpenSpec.upto sessionOrderSpec)

/-- 'roadkeep2.SessionDual', WHERE WHAT IT READS IS OF BULK AT MOST 1048576: true; the input reads as it did. -/
def sessionDualUptoRow : OpenClaim := { program := "ytofjejdlggmcjaa", sum := "90d8485ad8f501c619726c61cb429969edee3ba704d759c8af30c55d83dba8c5", func := "roadstead/roadkeep2.SessionDual", spec := "sessionDual", unfollowed := true, recurses := true, plainKeys := false, apart := false, narrowed := true }
def SessionDualUptoSaid : Prop := sessionDualUptoRow.holds Try.pinned (OpenSpec.upto sessionDualSpec)

/-- 'roadkeep2.ScopeMore', WHERE WHAT IT READS IS OF BULK AT MOST 1048576: true; the input reads as it did. -/
def scopeMoreUptoRow : OpenClaim := { program := "ytofjejdlggmcjaa", sum := "90d8485ad8f501c619726c61cb429969edee3ba704d759c8af30c55d83dba8c5", func := "roadstead/roadkeep2.ScopeMore", spec := "scopeMore", unfollowed := true, recurses := true, loops := true, plainKeys := false, apart := false, narrowed := true }
def ScopeMoreUptoSaid : Prop := scopeMoreUptoRow.holds Try.pinned (OpenSpec.upto scopeMoreSpec)

/-- 'roadkeep2.TokenPlaces', WHERE WHAT IT READS IS OF BULK AT MOST 1048576: true; the input reads as it did. -/
def tokenPlacesUptoRow : OpenClaim := { program := "ytofjejdlggmcjaa", sum := "90d8485ad8f501c619726c61cb429969edee3ba704d759c8af30c55d83dba8c5", func := "roadstead/roadkeep2.TokenPlaces", spec := "tokenPlaces", plainKeys := false, apart := false, narrowed := true }
def TokenPlacesUptoSaid : Prop := tokenPlacesUptoRow.holds Try.pinned (OpenSpec.upto tokenPlacesSpec)

/-- 'roadkeep2.EffectMore', WHERE WHAT IT READS IS OF BULK AT MOST 1048576: true; the input reads as it did. -/
def effectMoreUptoRow : OpenClaim := { program := "ytofjejdlggmcjaa", sum := "90d8485ad8f501c619726c61cb429969edee3ba704d759c8af30c55d83dba8c5", func := "roadstead/roadkeep2.EffectMore", spec := "effectMore", unfollowed := true, recurses := true, loops := true, plainKeys := false, apart := false, narrowed := true }
def EffectMoreUptoSaid : Prop := effectMoreUptoRow.holds Try.pinned (OpenSpec.upto effectMoreSpec)

/-- 'roadkeep2.TreeWhole', WHERE WHAT IT READS IS OF BULK AT MOST 1048576: true; the input reads as it did. -/
def treeWholeUptoRow : OpenClaim := { program := "ytofjejdlggmcjaa", sum := "90d8485ad8f501c619726c61cb429969edee3ba704d759c8af30c55d83dba8c5", func := "roadstead/roadkeep2.TreeWhole", spec := "treeWhole", recurses := true, loops := true, plainKeys := false, apart := false, narrowed := true }
def TreeWholeUptoSaid : Prop := treeWholeUptoRow.holds Try.pinned (OpenSpec.upto treeWholeSpec)

/-- 'roadkeep2.EffectLeast', WHERE WHAT IT READS IS OF BULK AT MOST 1048576: true; the input reads as it did. -/
def effectLeastUptoRow : OpenClaim := { program := "ytofjejdlggmcjaa", sum := "90d8485ad8f501c619726c61cb429969edee3ba704d759c8af30c55d83dba8c5", func := "roadstead/roadkeep2.EffectLeast", spec := "effectLeast", unfollowed := true, recurses := true, loops := true, plainKeys := false, apart := false, narrowed := true }
def EffectLeastUptoSaid : Prop := effectLeastUptoRow.holds Try.pinned (OpenSpec.upto effectLeastSpec)

/-- 'roadkeep2.TreeShut', WHERE WHAT IT READS IS OF BULK AT MOST 1048576: true; the input reads as it did. -/
def treeShutUptoRow : OpenClaim := { program := "ytofjejdlggmcjaa", sum := "90d8485ad8f501c619726c61cb429969edee3ba704d759c8af30c55d83dba8c5", func := "roadstead/roadkeep2.TreeShut", spec := "treeShut", unfollowed := true, recurses := true, loops := true, plainKeys := false, apart := false, narrowed := true }
def TreeShutUptoSaid : Prop := treeShutUptoRow.holds Try.pinned (OpenSpec.upto treeShutSpec)

/-- 'roadkeep2.TalkGoes', WHERE WHAT IT READS IS OF BULK AT MOST 1048576: true; the input reads as it did. -/
def talkGoesUptoRow : OpenClaim := { program := "ytofjejdlggmcjaa", sum := "90d8485ad8f501c619726c61cb429969edee3ba704d759c8af30c55d83dba8c5", func := "roadstead/roadkeep2.TalkGoes", spec := "talkGoes", unfollowed := true, recurses := true, plainKeys := false, apart := false, narrowed := true }
def TalkGoesUptoSaid : Prop := talkGoesUptoRow.holds Try.pinned (OpenSpec.upto talkGoesSpec)

end Rows
end Go.Proofs.Ytofjejdlggmcjaa
