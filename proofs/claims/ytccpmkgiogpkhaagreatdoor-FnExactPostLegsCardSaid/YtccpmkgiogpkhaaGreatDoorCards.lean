/-
  DERIVED. GIVEN WITH THE SEED: THE CARDS: each row of YtccpmkgiogpkhaaGreatDoorRows.lean that lists a variable, with what it lists TIED to the program's text (the seventh form; the later family's looks); each row that meets fmt, with fmt's text TOLD by the authors' own Lean function (tested against real Go, not proved from fmt's source: count such statements apart). THE CARD IS WHAT COUNTS. Prove the row's statement (the work); the ties are given (YtccpmkgiogpkhaaGreatDoorTie.lean); close each card by the builder's one call (the guide's Derived/Test/ToyasCard.lean, 'card_holds'). Laid BY PROGRAM, IN A SANDBOX (cutbox-door.mjs). By AI agents, Wed Nov 11 2026. No macro, syntax, notation, axiom, sorry.
-/
import Derived.Test.YtccpmkgiogpkhaaGreatDoorRows
import GoSem.ClaimSeven
namespace Go.Proofs.YtccpmkgiogpkhaaGreatDoor
namespace Rows

/-- THE TIED CARD OF 'laws.FnExactEntryCode'. -/
def fnExactEntryCodeCard : Claim7 := { stood := { row := fnExactEntryCodeRow, standIns := [], harness := (true, "6f5ddc60e8c94f3ad495e75b4161be2ccac827516c6f16c2090610dc897c9e49"), looks := false }, kinds := [], alts := [], laidByText := true, laidKinds := [.data], laidTests := true, laidLooks := .later }
def FnExactEntryCodeCardSaid : Prop := Claim7.holds Tryz.pinned (.plain (OpenSpec.ofChange fnExactEntryCodeSpec)) fnExactEntryCodeCard

/-- THE TIED CARD OF 'laws.FnExactPostLegs'. -/
def fnExactPostLegsCard : Claim7 := { stood := { row := fnExactPostLegsRow, standIns := [], harness := (true, "6f5ddc60e8c94f3ad495e75b4161be2ccac827516c6f16c2090610dc897c9e49"), looks := false }, kinds := [], alts := [], laidByText := true, laidKinds := [.data], laidTests := true, laidLooks := .later }
def FnExactPostLegsCardSaid : Prop := Claim7.holds Tryz.pinned (.plain (OpenSpec.ofChange fnExactPostLegsSpec)) fnExactPostLegsCard

/-- THE SECOND FORM's CARD OF 'laws.FnExactEntryCode'. -/
def fnExactEntryCodeUptoCard : Claim7 := { stood := { row := fnExactEntryCodeUptoRow, standIns := [], harness := (true, "6f5ddc60e8c94f3ad495e75b4161be2ccac827516c6f16c2090610dc897c9e49"), looks := false }, kinds := [], alts := [], laidByText := true, laidKinds := [.data], laidTests := true, laidLooks := .later }
def FnExactEntryCodeUptoCardSaid : Prop := Claim7.holds Tryz.pinned (.plain (OpenSpec.upto fnExactEntryCodeSpec)) fnExactEntryCodeUptoCard

/-- THE SECOND FORM's CARD OF 'laws.FnExactPostLegs'. -/
def fnExactPostLegsUptoCard : Claim7 := { stood := { row := fnExactPostLegsUptoRow, standIns := [], harness := (true, "6f5ddc60e8c94f3ad495e75b4161be2ccac827516c6f16c2090610dc897c9e49"), looks := false }, kinds := [], alts := [], laidByText := true, laidKinds := [.data], laidTests := true, laidLooks := .later }
def FnExactPostLegsUptoCardSaid : Prop := Claim7.holds Tryz.pinned (.plain (OpenSpec.upto fnExactPostLegsSpec)) fnExactPostLegsUptoCard
end Rows
end Go.Proofs.YtccpmkgiogpkhaaGreatDoor
