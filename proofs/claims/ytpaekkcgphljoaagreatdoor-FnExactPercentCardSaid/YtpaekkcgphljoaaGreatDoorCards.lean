/-
  DERIVED. GIVEN WITH THE SEED: THE CARDS: each row of YtpaekkcgphljoaaGreatDoorRows.lean that lists a variable, with what it lists TIED to the program's text (the seventh form; the later family's looks); each row that meets fmt, with fmt's text TOLD by the authors' own Lean function (tested against real Go, not proved from fmt's source: count such statements apart). THE CARD IS WHAT COUNTS. Prove the row's statement (the work); the ties are given (YtpaekkcgphljoaaGreatDoorTie.lean); close each card by the builder's one call (the guide's Derived/Test/ToyasCard.lean, 'card_holds'). Laid BY PROGRAM, IN A SANDBOX (cutbox-door.mjs). By AI agents, Wed Nov 11 2026. No macro, syntax, notation, axiom, sorry.
-/
import Derived.Test.YtpaekkcgphljoaaGreatDoorRows
import GoSem.ClaimSeven
namespace Go.Proofs.YtpaekkcgphljoaaGreatDoor
namespace Rows

/-- THE TIED CARD OF 'laws.FnExactPercent'. -/
def fnExactPercentCard : Claim7 := { stood := { row := fnExactPercentRow, standIns := [], harness := (true, "ccb42d612b025d47c4f9733d88aa50ea3783bb538da1f112ed151e8d6e85ed9e"), looks := false }, kinds := [], alts := [], laidByText := true, laidKinds := [.data, .data, .data], laidTests := true, laidLooks := .later }
def FnExactPercentCardSaid : Prop := Claim7.holds Tryz.pinned (.plain (OpenSpec.ofChange fnExactPercentSpec)) fnExactPercentCard

/-- THE TIED CARD OF 'laws.FnExactStepsText'. -/
def fnExactStepsTextCard : Claim7 := { stood := { row := fnExactStepsTextRow, standIns := [], harness := (true, "ccb42d612b025d47c4f9733d88aa50ea3783bb538da1f112ed151e8d6e85ed9e"), looks := false }, kinds := [], alts := [], laidByText := true, laidKinds := [.data, .data, .data], laidTests := true, laidLooks := .later }
def FnExactStepsTextCardSaid : Prop := Claim7.holds Tryz.pinned (.plain (OpenSpec.ofChange fnExactStepsTextSpec)) fnExactStepsTextCard

/-- THE SECOND FORM's CARD OF 'laws.FnExactPercent'. -/
def fnExactPercentUptoCard : Claim7 := { stood := { row := fnExactPercentUptoRow, standIns := [], harness := (true, "ccb42d612b025d47c4f9733d88aa50ea3783bb538da1f112ed151e8d6e85ed9e"), looks := false }, kinds := [], alts := [], laidByText := true, laidKinds := [.data, .data, .data], laidTests := true, laidLooks := .later }
def FnExactPercentUptoCardSaid : Prop := Claim7.holds Tryz.pinned (.plain (OpenSpec.upto fnExactPercentSpec)) fnExactPercentUptoCard

/-- THE SECOND FORM's CARD OF 'laws.FnExactStepsText'. -/
def fnExactStepsTextUptoCard : Claim7 := { stood := { row := fnExactStepsTextUptoRow, standIns := [], harness := (true, "ccb42d612b025d47c4f9733d88aa50ea3783bb538da1f112ed151e8d6e85ed9e"), looks := false }, kinds := [], alts := [], laidByText := true, laidKinds := [.data, .data, .data], laidTests := true, laidLooks := .later }
def FnExactStepsTextUptoCardSaid : Prop := Claim7.holds Tryz.pinned (.plain (OpenSpec.upto fnExactStepsTextSpec)) fnExactStepsTextUptoCard
end Rows
end Go.Proofs.YtpaekkcgphljoaaGreatDoor
