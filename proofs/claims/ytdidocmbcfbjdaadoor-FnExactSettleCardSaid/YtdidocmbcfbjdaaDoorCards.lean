/-
  DERIVED. GIVEN WITH THE SEED: THE CARDS: each row of YtdidocmbcfbjdaaDoorRows.lean that lists a variable, with what it lists TIED to the program's text (the seventh form; the later family's looks); each row that meets fmt, with fmt's text TOLD by the authors' own Lean function (tested against real Go, not proved from fmt's source: count such statements apart). THE CARD IS WHAT COUNTS. Prove the row's statement (the work); the ties are given (YtdidocmbcfbjdaaDoorTie.lean); close each card by the builder's one call (the guide's Derived/Test/ToyasCard.lean, 'card_holds'). Laid BY PROGRAM, IN A SANDBOX (cutbox-door.mjs). By AI agents, Wed Nov 11 2026. No macro, syntax, notation, axiom, sorry.
-/
import Derived.Test.YtdidocmbcfbjdaaDoorRows
import GoSem.ClaimSeven
namespace Go.Proofs.YtdidocmbcfbjdaaDoor
namespace Rows

/-- THE TIED CARD OF 'laws.FnExactBalanced'. -/
def fnExactBalancedCard : Claim7 := { stood := { row := fnExactBalancedRow, standIns := [], harness := (true, "b421d9d4eeb5fc8130d91a22a4a8fcc6cc08c463f231a9f94c665ff2b92977ec"), looks := false }, kinds := [], alts := [], laidByText := true, laidKinds := [.data], laidTests := true, laidLooks := .later }
def FnExactBalancedCardSaid : Prop := Claim7.holds Tryd.pinned (.plain (OpenSpec.ofChange fnExactBalancedSpec)) fnExactBalancedCard

/-- THE TIED CARD OF 'laws.FnExactLegSums'. -/
def fnExactLegSumsCard : Claim7 := { stood := { row := fnExactLegSumsRow, standIns := [], harness := (true, "b421d9d4eeb5fc8130d91a22a4a8fcc6cc08c463f231a9f94c665ff2b92977ec"), looks := false }, kinds := [], alts := [], laidByText := true, laidKinds := [.data], laidTests := true, laidLooks := .later }
def FnExactLegSumsCardSaid : Prop := Claim7.holds Tryd.pinned (.plain (OpenSpec.ofChange fnExactLegSumsSpec)) fnExactLegSumsCard

/-- THE TIED CARD OF 'laws.FnExactPositions'. -/
def fnExactPositionsCard : Claim7 := { stood := { row := fnExactPositionsRow, standIns := [], harness := (true, "b421d9d4eeb5fc8130d91a22a4a8fcc6cc08c463f231a9f94c665ff2b92977ec"), looks := false }, kinds := [], alts := [], laidByText := true, laidKinds := [.data], laidTests := true, laidLooks := .later }
def FnExactPositionsCardSaid : Prop := Claim7.holds Tryd.pinned (.plain (OpenSpec.ofChange fnExactPositionsSpec)) fnExactPositionsCard

/-- THE TIED CARD OF 'laws.FnExactSettle'. -/
def fnExactSettleCard : Claim7 := { stood := { row := fnExactSettleRow, standIns := [], harness := (true, "b421d9d4eeb5fc8130d91a22a4a8fcc6cc08c463f231a9f94c665ff2b92977ec"), looks := false }, kinds := [], alts := [], laidByText := true, laidKinds := [.data], laidTests := true, laidLooks := .later }
def FnExactSettleCardSaid : Prop := Claim7.holds Tryd.pinned (.plain (OpenSpec.ofChange fnExactSettleSpec)) fnExactSettleCard

/-- THE SECOND FORM's CARD OF 'laws.FnExactBalanced'. -/
def fnExactBalancedUptoCard : Claim7 := { stood := { row := fnExactBalancedUptoRow, standIns := [], harness := (true, "b421d9d4eeb5fc8130d91a22a4a8fcc6cc08c463f231a9f94c665ff2b92977ec"), looks := false }, kinds := [], alts := [], laidByText := true, laidKinds := [.data], laidTests := true, laidLooks := .later }
def FnExactBalancedUptoCardSaid : Prop := Claim7.holds Tryd.pinned (.plain (OpenSpec.upto fnExactBalancedSpec)) fnExactBalancedUptoCard

/-- THE SECOND FORM's CARD OF 'laws.FnExactLegSums'. -/
def fnExactLegSumsUptoCard : Claim7 := { stood := { row := fnExactLegSumsUptoRow, standIns := [], harness := (true, "b421d9d4eeb5fc8130d91a22a4a8fcc6cc08c463f231a9f94c665ff2b92977ec"), looks := false }, kinds := [], alts := [], laidByText := true, laidKinds := [.data], laidTests := true, laidLooks := .later }
def FnExactLegSumsUptoCardSaid : Prop := Claim7.holds Tryd.pinned (.plain (OpenSpec.upto fnExactLegSumsSpec)) fnExactLegSumsUptoCard

/-- THE SECOND FORM's CARD OF 'laws.FnExactPositions'. -/
def fnExactPositionsUptoCard : Claim7 := { stood := { row := fnExactPositionsUptoRow, standIns := [], harness := (true, "b421d9d4eeb5fc8130d91a22a4a8fcc6cc08c463f231a9f94c665ff2b92977ec"), looks := false }, kinds := [], alts := [], laidByText := true, laidKinds := [.data], laidTests := true, laidLooks := .later }
def FnExactPositionsUptoCardSaid : Prop := Claim7.holds Tryd.pinned (.plain (OpenSpec.upto fnExactPositionsSpec)) fnExactPositionsUptoCard

/-- THE SECOND FORM's CARD OF 'laws.FnExactSettle'. -/
def fnExactSettleUptoCard : Claim7 := { stood := { row := fnExactSettleUptoRow, standIns := [], harness := (true, "b421d9d4eeb5fc8130d91a22a4a8fcc6cc08c463f231a9f94c665ff2b92977ec"), looks := false }, kinds := [], alts := [], laidByText := true, laidKinds := [.data], laidTests := true, laidLooks := .later }
def FnExactSettleUptoCardSaid : Prop := Claim7.holds Tryd.pinned (.plain (OpenSpec.upto fnExactSettleSpec)) fnExactSettleUptoCard
end Rows
end Go.Proofs.YtdidocmbcfbjdaaDoor
