/-
  DERIVED. GIVEN WITH THE SEED: THE CARDS: each row of YtbgokfhcgcoipaaGreatDoorRows.lean that lists a variable, with what it lists TIED to the program's text (the seventh form; the later family's looks); each row that meets fmt, with fmt's text TOLD by the authors' own Lean function (tested against real Go, not proved from fmt's source: count such statements apart). THE CARD IS WHAT COUNTS. Prove the row's statement (the work); the ties are given (YtbgokfhcgcoipaaGreatDoorTie.lean); close each card by the builder's one call (the guide's Derived/Test/ToyasCard.lean, 'card_holds'). Laid BY PROGRAM, IN A SANDBOX (cutbox-door.mjs). By AI agents, Wed Nov 11 2026. No macro, syntax, notation, axiom, sorry.
-/
import Derived.Test.YtbgokfhcgcoipaaGreatDoorRows
import GoSem.ClaimSeven
namespace Go.Proofs.YtbgokfhcgcoipaaGreatDoor
namespace Rows

/-- THE TIED CARD OF 'laws.FnExactTextSteps'. -/
def fnExactTextStepsCard : Claim7 := { stood := { row := fnExactTextStepsRow, standIns := [], harness := (true, "bf944c02d3f8f5012866929e16f7805bc3226f48e2243a465c71fc57674ec3e8"), looks := true }, kinds := [], alts := [], laidByText := true, laidKinds := [.data, .data, .data, .sentinel, .sentinel], laidTests := true, laidLooks := .later }
def FnExactTextStepsCardSaid : Prop := Claim7.holds Tryz.pinned (.plain (OpenSpec.ofChange fnExactTextStepsSpec)) fnExactTextStepsCard

/-- THE TIED CARD OF 'laws.FnPlan'. -/
def fnPlanCard : Claim7 := { stood := { row := fnPlanRow, standIns := [], harness := (true, "bf944c02d3f8f5012866929e16f7805bc3226f48e2243a465c71fc57674ec3e8"), looks := true }, kinds := [], alts := [], laidByText := true, laidKinds := [.data, .data, .data, .data], laidTests := true, laidLooks := .later }
def FnPlanCardSaid : Prop := Claim7.holds Tryz.pinned (.plain (OpenSpec.ofChange fnPlanSpec)) fnPlanCard

/-- THE TIED CARD OF 'laws.FnTaxIn'. -/
def fnTaxInCard : Claim7 := { stood := { row := fnTaxInRow, standIns := [], harness := (true, "bf944c02d3f8f5012866929e16f7805bc3226f48e2243a465c71fc57674ec3e8"), looks := true }, kinds := [], alts := [], laidByText := true, laidKinds := [.data, .data, .data, .data], laidTests := true, laidLooks := .later }
def FnTaxInCardSaid : Prop := Claim7.holds Tryz.pinned (.plain (OpenSpec.ofChange fnTaxInSpec)) fnTaxInCard

/-- THE TIED CARD OF 'laws.FnFee'. -/
def fnFeeCard : Claim7 := { stood := { row := fnFeeRow, standIns := [], harness := (true, "bf944c02d3f8f5012866929e16f7805bc3226f48e2243a465c71fc57674ec3e8"), looks := true }, kinds := [], alts := [], laidByText := true, laidKinds := [.data, .data, .data, .sentinel, .sentinel, .data], laidTests := true, laidLooks := .later }
def FnFeeCardSaid : Prop := Claim7.holds Tryz.pinned (.plain (OpenSpec.ofChange fnFeeSpec)) fnFeeCard

/-- THE TIED CARD OF 'laws.FnBook'. -/
def fnBookCard : Claim7 := { stood := { row := fnBookRow, standIns := [], harness := (true, "bf944c02d3f8f5012866929e16f7805bc3226f48e2243a465c71fc57674ec3e8"), looks := true }, kinds := [], alts := [], laidByText := true, laidKinds := [.data, .data, .data, .data], laidTests := true, laidLooks := .later }
def FnBookCardSaid : Prop := Claim7.holds Tryz.pinned (.plain (OpenSpec.ofChange fnBookSpec)) fnBookCard

/-- THE TIED CARD OF 'laws.FnEntry'. -/
def fnEntryCard : Claim7 := { stood := { row := fnEntryRow, standIns := [], harness := (true, "bf944c02d3f8f5012866929e16f7805bc3226f48e2243a465c71fc57674ec3e8"), looks := true }, kinds := [], alts := [], laidByText := true, laidKinds := [.data, .data, .data, .data], laidTests := true, laidLooks := .later }
def FnEntryCardSaid : Prop := Claim7.holds Tryz.pinned (.plain (OpenSpec.ofChange fnEntrySpec)) fnEntryCard

/-- THE SECOND FORM's CARD OF 'laws.FnExactTextSteps'. -/
def fnExactTextStepsUptoCard : Claim7 := { stood := { row := fnExactTextStepsUptoRow, standIns := [], harness := (true, "bf944c02d3f8f5012866929e16f7805bc3226f48e2243a465c71fc57674ec3e8"), looks := true }, kinds := [], alts := [], laidByText := true, laidKinds := [.data, .data, .data, .sentinel, .sentinel], laidTests := true, laidLooks := .later }
def FnExactTextStepsUptoCardSaid : Prop := Claim7.holds Tryz.pinned (.plain (OpenSpec.upto fnExactTextStepsSpec)) fnExactTextStepsUptoCard

/-- THE SECOND FORM's CARD OF 'laws.FnPlan'. -/
def fnPlanUptoCard : Claim7 := { stood := { row := fnPlanUptoRow, standIns := [], harness := (true, "bf944c02d3f8f5012866929e16f7805bc3226f48e2243a465c71fc57674ec3e8"), looks := true }, kinds := [], alts := [], laidByText := true, laidKinds := [.data, .data, .data, .data], laidTests := true, laidLooks := .later }
def FnPlanUptoCardSaid : Prop := Claim7.holds Tryz.pinned (.plain (OpenSpec.upto fnPlanSpec)) fnPlanUptoCard

/-- THE SECOND FORM's CARD OF 'laws.FnTaxIn'. -/
def fnTaxInUptoCard : Claim7 := { stood := { row := fnTaxInUptoRow, standIns := [], harness := (true, "bf944c02d3f8f5012866929e16f7805bc3226f48e2243a465c71fc57674ec3e8"), looks := true }, kinds := [], alts := [], laidByText := true, laidKinds := [.data, .data, .data, .data], laidTests := true, laidLooks := .later }
def FnTaxInUptoCardSaid : Prop := Claim7.holds Tryz.pinned (.plain (OpenSpec.upto fnTaxInSpec)) fnTaxInUptoCard

/-- THE SECOND FORM's CARD OF 'laws.FnFee'. -/
def fnFeeUptoCard : Claim7 := { stood := { row := fnFeeUptoRow, standIns := [], harness := (true, "bf944c02d3f8f5012866929e16f7805bc3226f48e2243a465c71fc57674ec3e8"), looks := true }, kinds := [], alts := [], laidByText := true, laidKinds := [.data, .data, .data, .sentinel, .sentinel, .data], laidTests := true, laidLooks := .later }
def FnFeeUptoCardSaid : Prop := Claim7.holds Tryz.pinned (.plain (OpenSpec.upto fnFeeSpec)) fnFeeUptoCard

/-- THE SECOND FORM's CARD OF 'laws.FnBook'. -/
def fnBookUptoCard : Claim7 := { stood := { row := fnBookUptoRow, standIns := [], harness := (true, "bf944c02d3f8f5012866929e16f7805bc3226f48e2243a465c71fc57674ec3e8"), looks := true }, kinds := [], alts := [], laidByText := true, laidKinds := [.data, .data, .data, .data], laidTests := true, laidLooks := .later }
def FnBookUptoCardSaid : Prop := Claim7.holds Tryz.pinned (.plain (OpenSpec.upto fnBookSpec)) fnBookUptoCard

/-- THE SECOND FORM's CARD OF 'laws.FnEntry'. -/
def fnEntryUptoCard : Claim7 := { stood := { row := fnEntryUptoRow, standIns := [], harness := (true, "bf944c02d3f8f5012866929e16f7805bc3226f48e2243a465c71fc57674ec3e8"), looks := true }, kinds := [], alts := [], laidByText := true, laidKinds := [.data, .data, .data, .data], laidTests := true, laidLooks := .later }
def FnEntryUptoCardSaid : Prop := Claim7.holds Tryz.pinned (.plain (OpenSpec.upto fnEntrySpec)) fnEntryUptoCard
end Rows
end Go.Proofs.YtbgokfhcgcoipaaGreatDoor
