/-
  DERIVED. GIVEN WITH THE SEED: THE CARDS: each row of YtfbmjimhjlmhkaaDoorRows.lean that lists a variable, with what it lists TIED to the program's text (the seventh form; the later family's looks); each row that meets fmt, with fmt's text TOLD by the authors' own Lean function (tested against real Go, not proved from fmt's source: count such statements apart). THE CARD IS WHAT COUNTS. Prove the row's statement (the work); the ties are given (YtfbmjimhjlmhkaaDoorTie.lean); close each card by the builder's one call (the guide's Derived/Test/ToyasCard.lean, 'card_holds'). Laid BY PROGRAM, IN A SANDBOX (cutbox-door.mjs). By AI agents, Wed Nov 11 2026. No macro, syntax, notation, axiom, sorry.
-/
import Derived.Test.YtfbmjimhjlmhkaaDoorRows
import GoSem.ClaimSeven
namespace Go.Proofs.YtfbmjimhjlmhkaaDoor
namespace Rows

/-- THE TIED CARD OF 'laws.FnExactLegsOk'. -/
def fnExactLegsOkCard : Claim7 := { stood := { row := fnExactLegsOkRow, standIns := [], harness := (true, "6cd74ea2147c239af620d43ac1491667f85f254ea8847e3e01a267b318bc40f4"), looks := false }, kinds := [], alts := [], laidByText := true, laidKinds := [.data], laidTests := true, laidLooks := .later }
def FnExactLegsOkCardSaid : Prop := Claim7.holds Tryd.pinned (.plain (OpenSpec.ofChange fnExactLegsOkSpec)) fnExactLegsOkCard

/-- THE TIED CARD OF 'laws.FnExactBookOk'. -/
def fnExactBookOkCard : Claim7 := { stood := { row := fnExactBookOkRow, standIns := [], harness := (true, "6cd74ea2147c239af620d43ac1491667f85f254ea8847e3e01a267b318bc40f4"), looks := false }, kinds := [], alts := [], laidByText := true, laidKinds := [.data], laidTests := true, laidLooks := .later }
def FnExactBookOkCardSaid : Prop := Claim7.holds Tryd.pinned (.plain (OpenSpec.ofChange fnExactBookOkSpec)) fnExactBookOkCard

/-- THE TIED CARD OF 'laws.FnExactDebtsOk'. -/
def fnExactDebtsOkCard : Claim7 := { stood := { row := fnExactDebtsOkRow, standIns := [], harness := (true, "6cd74ea2147c239af620d43ac1491667f85f254ea8847e3e01a267b318bc40f4"), looks := false }, kinds := [], alts := [], laidByText := true, laidKinds := [.data], laidTests := true, laidLooks := .later }
def FnExactDebtsOkCardSaid : Prop := Claim7.holds Tryd.pinned (.plain (OpenSpec.ofChange fnExactDebtsOkSpec)) fnExactDebtsOkCard

/-- THE TIED CARD OF 'laws.FnExactUndo'. -/
def fnExactUndoCard : Claim7 := { stood := { row := fnExactUndoRow, standIns := [], harness := (true, "6cd74ea2147c239af620d43ac1491667f85f254ea8847e3e01a267b318bc40f4"), looks := false }, kinds := [], alts := [], laidByText := true, laidKinds := [.data], laidTests := true, laidLooks := .later }
def FnExactUndoCardSaid : Prop := Claim7.holds Tryd.pinned (.plain (OpenSpec.ofChange fnExactUndoSpec)) fnExactUndoCard

/-- THE TIED CARD OF 'laws.FnExactPlanSums'. -/
def fnExactPlanSumsCard : Claim7 := { stood := { row := fnExactPlanSumsRow, standIns := [], harness := (true, "6cd74ea2147c239af620d43ac1491667f85f254ea8847e3e01a267b318bc40f4"), looks := false }, kinds := [], alts := [], laidByText := true, laidKinds := [.data], laidTests := true, laidLooks := .later }
def FnExactPlanSumsCardSaid : Prop := Claim7.holds Tryd.pinned (.plain (OpenSpec.ofChange fnExactPlanSumsSpec)) fnExactPlanSumsCard

/-- THE TIED CARD OF 'laws.FnExactBookSum'. -/
def fnExactBookSumCard : Claim7 := { stood := { row := fnExactBookSumRow, standIns := [], harness := (true, "6cd74ea2147c239af620d43ac1491667f85f254ea8847e3e01a267b318bc40f4"), looks := false }, kinds := [], alts := [], laidByText := true, laidKinds := [.data], laidTests := true, laidLooks := .later }
def FnExactBookSumCardSaid : Prop := Claim7.holds Tryd.pinned (.plain (OpenSpec.ofChange fnExactBookSumSpec)) fnExactBookSumCard

/-- THE TIED CARD OF 'laws.FnExactTaxTotal'. -/
def fnExactTaxTotalCard : Claim7 := { stood := { row := fnExactTaxTotalRow, standIns := [], harness := (true, "6cd74ea2147c239af620d43ac1491667f85f254ea8847e3e01a267b318bc40f4"), looks := false }, kinds := [], alts := [], laidByText := true, laidKinds := [.data], laidTests := true, laidLooks := .later }
def FnExactTaxTotalCardSaid : Prop := Claim7.holds Tryd.pinned (.plain (OpenSpec.ofChange fnExactTaxTotalSpec)) fnExactTaxTotalCard

/-- THE SECOND FORM's CARD OF 'laws.FnExactLegsOk'. -/
def fnExactLegsOkUptoCard : Claim7 := { stood := { row := fnExactLegsOkUptoRow, standIns := [], harness := (true, "6cd74ea2147c239af620d43ac1491667f85f254ea8847e3e01a267b318bc40f4"), looks := false }, kinds := [], alts := [], laidByText := true, laidKinds := [.data], laidTests := true, laidLooks := .later }
def FnExactLegsOkUptoCardSaid : Prop := Claim7.holds Tryd.pinned (.plain (OpenSpec.upto fnExactLegsOkSpec)) fnExactLegsOkUptoCard

/-- THE SECOND FORM's CARD OF 'laws.FnExactBookOk'. -/
def fnExactBookOkUptoCard : Claim7 := { stood := { row := fnExactBookOkUptoRow, standIns := [], harness := (true, "6cd74ea2147c239af620d43ac1491667f85f254ea8847e3e01a267b318bc40f4"), looks := false }, kinds := [], alts := [], laidByText := true, laidKinds := [.data], laidTests := true, laidLooks := .later }
def FnExactBookOkUptoCardSaid : Prop := Claim7.holds Tryd.pinned (.plain (OpenSpec.upto fnExactBookOkSpec)) fnExactBookOkUptoCard

/-- THE SECOND FORM's CARD OF 'laws.FnExactDebtsOk'. -/
def fnExactDebtsOkUptoCard : Claim7 := { stood := { row := fnExactDebtsOkUptoRow, standIns := [], harness := (true, "6cd74ea2147c239af620d43ac1491667f85f254ea8847e3e01a267b318bc40f4"), looks := false }, kinds := [], alts := [], laidByText := true, laidKinds := [.data], laidTests := true, laidLooks := .later }
def FnExactDebtsOkUptoCardSaid : Prop := Claim7.holds Tryd.pinned (.plain (OpenSpec.upto fnExactDebtsOkSpec)) fnExactDebtsOkUptoCard

/-- THE SECOND FORM's CARD OF 'laws.FnExactUndo'. -/
def fnExactUndoUptoCard : Claim7 := { stood := { row := fnExactUndoUptoRow, standIns := [], harness := (true, "6cd74ea2147c239af620d43ac1491667f85f254ea8847e3e01a267b318bc40f4"), looks := false }, kinds := [], alts := [], laidByText := true, laidKinds := [.data], laidTests := true, laidLooks := .later }
def FnExactUndoUptoCardSaid : Prop := Claim7.holds Tryd.pinned (.plain (OpenSpec.upto fnExactUndoSpec)) fnExactUndoUptoCard

/-- THE SECOND FORM's CARD OF 'laws.FnExactPlanSums'. -/
def fnExactPlanSumsUptoCard : Claim7 := { stood := { row := fnExactPlanSumsUptoRow, standIns := [], harness := (true, "6cd74ea2147c239af620d43ac1491667f85f254ea8847e3e01a267b318bc40f4"), looks := false }, kinds := [], alts := [], laidByText := true, laidKinds := [.data], laidTests := true, laidLooks := .later }
def FnExactPlanSumsUptoCardSaid : Prop := Claim7.holds Tryd.pinned (.plain (OpenSpec.upto fnExactPlanSumsSpec)) fnExactPlanSumsUptoCard

/-- THE SECOND FORM's CARD OF 'laws.FnExactBookSum'. -/
def fnExactBookSumUptoCard : Claim7 := { stood := { row := fnExactBookSumUptoRow, standIns := [], harness := (true, "6cd74ea2147c239af620d43ac1491667f85f254ea8847e3e01a267b318bc40f4"), looks := false }, kinds := [], alts := [], laidByText := true, laidKinds := [.data], laidTests := true, laidLooks := .later }
def FnExactBookSumUptoCardSaid : Prop := Claim7.holds Tryd.pinned (.plain (OpenSpec.upto fnExactBookSumSpec)) fnExactBookSumUptoCard

/-- THE SECOND FORM's CARD OF 'laws.FnExactTaxTotal'. -/
def fnExactTaxTotalUptoCard : Claim7 := { stood := { row := fnExactTaxTotalUptoRow, standIns := [], harness := (true, "6cd74ea2147c239af620d43ac1491667f85f254ea8847e3e01a267b318bc40f4"), looks := false }, kinds := [], alts := [], laidByText := true, laidKinds := [.data], laidTests := true, laidLooks := .later }
def FnExactTaxTotalUptoCardSaid : Prop := Claim7.holds Tryd.pinned (.plain (OpenSpec.upto fnExactTaxTotalSpec)) fnExactTaxTotalUptoCard
end Rows
end Go.Proofs.YtfbmjimhjlmhkaaDoor
