/-
  DERIVED. GIVEN WITH THE SEED: THE CARDS: each row of YtlmodlihiglnhaaDoorRows.lean that lists a variable, with what it lists TIED to the program's text (the seventh form; the later family's looks); each row that meets fmt, with fmt's text TOLD by the authors' own Lean function (tested against real Go, not proved from fmt's source: count such statements apart). THE CARD IS WHAT COUNTS. Prove the row's statement (the work); the ties are given (YtlmodlihiglnhaaDoorTie.lean); close each card by the builder's one call (the guide's Derived/Test/ToyasCard.lean, 'card_holds'). Laid BY PROGRAM, IN A SANDBOX (cutbox-door.mjs). By AI agents, Wed Nov 11 2026. No macro, syntax, notation, axiom, sorry.
-/
import Derived.Test.YtlmodlihiglnhaaDoorRows
import GoSem.ClaimSeven
namespace Go.Proofs.YtlmodlihiglnhaaDoor
namespace Rows

/-- THE TIED CARD OF 'roadkeep2.SchemeInstance'. -/
def schemeInstanceCard : Claim7 := { stood := { row := schemeInstanceRow, standIns := [], harness := (true, "cd4c057f4ec2f14a910725ffded6d7acf2afd09b7250754fd15963fcde194d20"), looks := false }, kinds := [], alts := [], laidByText := true, laidKinds := [.data, .data, .data], laidTests := true, laidLooks := .later }
def SchemeInstanceCardSaid : Prop := Claim7.holds Tryd.pinned (.plain (OpenSpec.ofChange schemeInstanceSpec)) schemeInstanceCard

/-- THE TIED CARD OF 'roadkeep2.SchemeClosed'. -/
def schemeClosedCard : Claim7 := { stood := { row := schemeClosedRow, standIns := [], harness := (true, "cd4c057f4ec2f14a910725ffded6d7acf2afd09b7250754fd15963fcde194d20"), looks := false }, kinds := [], alts := [], laidByText := true, laidKinds := [.data, .data, .data], laidTests := true, laidLooks := .later }
def SchemeClosedCardSaid : Prop := Claim7.holds Tryd.pinned (.plain (OpenSpec.ofChange schemeClosedSpec)) schemeClosedCard

/-- THE TIED CARD OF 'roadkeep2.TokenText'. -/
def tokenTextCard : Claim7 := { stood := { row := tokenTextRow, standIns := [], harness := (true, "cd4c057f4ec2f14a910725ffded6d7acf2afd09b7250754fd15963fcde194d20"), looks := false }, kinds := [], alts := [], laidByText := true, laidKinds := [.data, .data, .data], laidTests := true, laidLooks := .later }
def TokenTextCardSaid : Prop := Claim7.holds Tryd.pinned (.plain (OpenSpec.ofChange tokenTextSpec)) tokenTextCard

/-- THE TIED CARD OF 'roadkeep2.TokenBack'. -/
def tokenBackCard : Claim7 := { stood := { row := tokenBackRow, standIns := [], harness := (true, "cd4c057f4ec2f14a910725ffded6d7acf2afd09b7250754fd15963fcde194d20"), looks := false }, kinds := [], alts := [], laidByText := true, laidKinds := [.data, .data, .data], laidTests := true, laidLooks := .later }
def TokenBackCardSaid : Prop := Claim7.holds Tryd.pinned (.plain (OpenSpec.ofChange tokenBackSpec)) tokenBackCard

/-- THE TIED CARD OF 'roadkeep2.CapableOnce'. -/
def capableOnceCard : Claim7 := { stood := { row := capableOnceRow, standIns := [], harness := (true, "cd4c057f4ec2f14a910725ffded6d7acf2afd09b7250754fd15963fcde194d20"), looks := false }, kinds := [], alts := [], laidByText := true, laidKinds := [.data, .data, .data, .data, .listed, .data, .pinned], laidTests := true, laidLooks := .later }
def CapableOnceCardSaid : Prop := Claim7.holds Tryd.pinned (.plain (OpenSpec.ofChange capableOnceSpec)) capableOnceCard

/-- THE TIED CARD OF 'roadkeep2.ScopeShut'. -/
def scopeShutCard : Claim7 := { stood := { row := scopeShutRow, standIns := [], harness := (true, "cd4c057f4ec2f14a910725ffded6d7acf2afd09b7250754fd15963fcde194d20"), looks := false }, kinds := [], alts := [], laidByText := true, laidKinds := [.data, .data, .data, .data, .listed, .data, .pinned], laidTests := true, laidLooks := .later }
def ScopeShutCardSaid : Prop := Claim7.holds Tryd.pinned (.plain (OpenSpec.ofChange scopeShutSpec)) scopeShutCard

/-- THE SECOND FORM's CARD OF 'roadkeep2.SchemeInstance'. -/
def schemeInstanceUptoCard : Claim7 := { stood := { row := schemeInstanceUptoRow, standIns := [], harness := (true, "cd4c057f4ec2f14a910725ffded6d7acf2afd09b7250754fd15963fcde194d20"), looks := false }, kinds := [], alts := [], laidByText := true, laidKinds := [.data, .data, .data], laidTests := true, laidLooks := .later }
def SchemeInstanceUptoCardSaid : Prop := Claim7.holds Tryd.pinned (.plain (OpenSpec.upto schemeInstanceSpec)) schemeInstanceUptoCard

/-- THE SECOND FORM's CARD OF 'roadkeep2.SchemeClosed'. -/
def schemeClosedUptoCard : Claim7 := { stood := { row := schemeClosedUptoRow, standIns := [], harness := (true, "cd4c057f4ec2f14a910725ffded6d7acf2afd09b7250754fd15963fcde194d20"), looks := false }, kinds := [], alts := [], laidByText := true, laidKinds := [.data, .data, .data], laidTests := true, laidLooks := .later }
def SchemeClosedUptoCardSaid : Prop := Claim7.holds Tryd.pinned (.plain (OpenSpec.upto schemeClosedSpec)) schemeClosedUptoCard

/-- THE SECOND FORM's CARD OF 'roadkeep2.TokenText'. -/
def tokenTextUptoCard : Claim7 := { stood := { row := tokenTextUptoRow, standIns := [], harness := (true, "cd4c057f4ec2f14a910725ffded6d7acf2afd09b7250754fd15963fcde194d20"), looks := false }, kinds := [], alts := [], laidByText := true, laidKinds := [.data, .data, .data], laidTests := true, laidLooks := .later }
def TokenTextUptoCardSaid : Prop := Claim7.holds Tryd.pinned (.plain (OpenSpec.upto tokenTextSpec)) tokenTextUptoCard

/-- THE SECOND FORM's CARD OF 'roadkeep2.TokenBack'. -/
def tokenBackUptoCard : Claim7 := { stood := { row := tokenBackUptoRow, standIns := [], harness := (true, "cd4c057f4ec2f14a910725ffded6d7acf2afd09b7250754fd15963fcde194d20"), looks := false }, kinds := [], alts := [], laidByText := true, laidKinds := [.data, .data, .data], laidTests := true, laidLooks := .later }
def TokenBackUptoCardSaid : Prop := Claim7.holds Tryd.pinned (.plain (OpenSpec.upto tokenBackSpec)) tokenBackUptoCard

/-- THE SECOND FORM's CARD OF 'roadkeep2.CapableOnce'. -/
def capableOnceUptoCard : Claim7 := { stood := { row := capableOnceUptoRow, standIns := [], harness := (true, "cd4c057f4ec2f14a910725ffded6d7acf2afd09b7250754fd15963fcde194d20"), looks := false }, kinds := [], alts := [], laidByText := true, laidKinds := [.data, .data, .data, .data, .listed, .data, .pinned], laidTests := true, laidLooks := .later }
def CapableOnceUptoCardSaid : Prop := Claim7.holds Tryd.pinned (.plain (OpenSpec.upto capableOnceSpec)) capableOnceUptoCard

/-- THE SECOND FORM's CARD OF 'roadkeep2.ScopeShut'. -/
def scopeShutUptoCard : Claim7 := { stood := { row := scopeShutUptoRow, standIns := [], harness := (true, "cd4c057f4ec2f14a910725ffded6d7acf2afd09b7250754fd15963fcde194d20"), looks := false }, kinds := [], alts := [], laidByText := true, laidKinds := [.data, .data, .data, .data, .listed, .data, .pinned], laidTests := true, laidLooks := .later }
def ScopeShutUptoCardSaid : Prop := Claim7.holds Tryd.pinned (.plain (OpenSpec.upto scopeShutSpec)) scopeShutUptoCard
end Rows
end Go.Proofs.YtlmodlihiglnhaaDoor
