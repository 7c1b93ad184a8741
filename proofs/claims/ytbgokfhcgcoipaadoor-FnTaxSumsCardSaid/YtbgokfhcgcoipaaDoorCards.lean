/-
  DERIVED. GIVEN WITH THE SEED: THE CARDS: each row of YtbgokfhcgcoipaaDoorRows.lean that lists a variable, with what it lists TIED to the program's text (the seventh form; the later family's looks); each row that meets fmt, with fmt's text TOLD by the authors' own Lean function (tested against real Go, not proved from fmt's source: count such statements apart). THE CARD IS WHAT COUNTS. Prove the row's statement (the work); the ties are given (YtbgokfhcgcoipaaDoorTie.lean); close each card by the builder's one call (the guide's Derived/Test/ToyasCard.lean, 'card_holds'). Laid BY PROGRAM, IN A SANDBOX (cutbox-door.mjs). By AI agents, Wed Nov 11 2026. No macro, syntax, notation, axiom, sorry.
-/
import Derived.Test.YtbgokfhcgcoipaaDoorRows
import GoSem.ClaimSeven
namespace Go.Proofs.YtbgokfhcgcoipaaDoor
namespace Rows

/-- THE TIED CARD OF 'laws.FnLeast'. -/
def fnLeastCard : Claim7 := { stood := { row := fnLeastRow, standIns := [], harness := (true, "4f2739089c5344e26574443874c0898afd81cf20b7f9e593ca4f4556e843e562"), looks := false }, kinds := [], alts := [], laidByText := true, laidKinds := [.data], laidTests := true, laidLooks := .later }
def FnLeastCardSaid : Prop := Claim7.holds Tryd.pinned (.plain (OpenSpec.ofChange fnLeastSpec)) fnLeastCard

/-- THE TIED CARD OF 'laws.FnSettle'. -/
def fnSettleCard : Claim7 := { stood := { row := fnSettleRow, standIns := [], harness := (true, "4f2739089c5344e26574443874c0898afd81cf20b7f9e593ca4f4556e843e562"), looks := false }, kinds := [], alts := [], laidByText := true, laidKinds := [.data, .data, .data, .data], laidTests := true, laidLooks := .later }
def FnSettleCardSaid : Prop := Claim7.holds Tryd.pinned (.plain (OpenSpec.ofChange fnSettleSpec)) fnSettleCard

/-- THE TIED CARD OF 'laws.FnTaxSums'. -/
def fnTaxSumsCard : Claim7 := { stood := { row := fnTaxSumsRow, standIns := [], harness := (true, "4f2739089c5344e26574443874c0898afd81cf20b7f9e593ca4f4556e843e562"), looks := false }, kinds := [], alts := [], laidByText := true, laidKinds := [.data], laidTests := true, laidLooks := .later }
def FnTaxSumsCardSaid : Prop := Claim7.holds Tryd.pinned (.plain (OpenSpec.ofChange fnTaxSumsSpec)) fnTaxSumsCard

/-- THE SECOND FORM's CARD OF 'laws.FnLeast'. -/
def fnLeastUptoCard : Claim7 := { stood := { row := fnLeastUptoRow, standIns := [], harness := (true, "4f2739089c5344e26574443874c0898afd81cf20b7f9e593ca4f4556e843e562"), looks := false }, kinds := [], alts := [], laidByText := true, laidKinds := [.data], laidTests := true, laidLooks := .later }
def FnLeastUptoCardSaid : Prop := Claim7.holds Tryd.pinned (.plain (OpenSpec.upto fnLeastSpec)) fnLeastUptoCard

/-- THE SECOND FORM's CARD OF 'laws.FnSettle'. -/
def fnSettleUptoCard : Claim7 := { stood := { row := fnSettleUptoRow, standIns := [], harness := (true, "4f2739089c5344e26574443874c0898afd81cf20b7f9e593ca4f4556e843e562"), looks := false }, kinds := [], alts := [], laidByText := true, laidKinds := [.data, .data, .data, .data], laidTests := true, laidLooks := .later }
def FnSettleUptoCardSaid : Prop := Claim7.holds Tryd.pinned (.plain (OpenSpec.upto fnSettleSpec)) fnSettleUptoCard

/-- THE SECOND FORM's CARD OF 'laws.FnTaxSums'. -/
def fnTaxSumsUptoCard : Claim7 := { stood := { row := fnTaxSumsUptoRow, standIns := [], harness := (true, "4f2739089c5344e26574443874c0898afd81cf20b7f9e593ca4f4556e843e562"), looks := false }, kinds := [], alts := [], laidByText := true, laidKinds := [.data], laidTests := true, laidLooks := .later }
def FnTaxSumsUptoCardSaid : Prop := Claim7.holds Tryd.pinned (.plain (OpenSpec.upto fnTaxSumsSpec)) fnTaxSumsUptoCard
end Rows
end Go.Proofs.YtbgokfhcgcoipaaDoor
