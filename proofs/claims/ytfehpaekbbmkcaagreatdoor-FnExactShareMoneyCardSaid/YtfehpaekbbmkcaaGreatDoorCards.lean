/-
  DERIVED. GIVEN WITH THE SEED: THE CARDS: each row of YtfehpaekbbmkcaaGreatDoorRows.lean that lists a variable, with what it lists TIED to the program's text (the seventh form; the later family's looks); each row that meets fmt, with fmt's text TOLD by the authors' own Lean function (tested against real Go, not proved from fmt's source: count such statements apart). THE CARD IS WHAT COUNTS. Prove the row's statement (the work); the ties are given (YtfehpaekbbmkcaaGreatDoorTie.lean); close each card by the builder's one call (the guide's Derived/Test/ToyasCard.lean, 'card_holds'). Laid BY PROGRAM, IN A SANDBOX (cutbox-door.mjs). By AI agents, Wed Nov 11 2026. No macro, syntax, notation, axiom, sorry.
-/
import Derived.Test.YtfehpaekbbmkcaaGreatDoorRows
import GoSem.ClaimSeven
namespace Go.Proofs.YtfehpaekbbmkcaaGreatDoor
namespace Rows

/-- THE TIED CARD OF 'laws.FnExactShareMoney'. -/
def fnExactShareMoneyCard : Claim7 := { stood := { row := fnExactShareMoneyRow, standIns := [], harness := (true, "7249cd01534e23325b1ca2016f3680f9a206fa305ddd469fa7f25c1b72a424a8"), looks := true }, kinds := [], alts := [], laidByText := true, laidKinds := [.data], laidTests := true, laidLooks := .later }
def FnExactShareMoneyCardSaid : Prop := Claim7.holds Tryz.pinned (.plain (OpenSpec.ofChange fnExactShareMoneySpec)) fnExactShareMoneyCard

/-- THE TIED CARD OF 'laws.FnExactRestAdd'. -/
def fnExactRestAddCard : Claim7 := { stood := { row := fnExactRestAddRow, standIns := [], harness := (true, "7249cd01534e23325b1ca2016f3680f9a206fa305ddd469fa7f25c1b72a424a8"), looks := true }, kinds := [], alts := [], laidByText := true, laidKinds := [.data], laidTests := true, laidLooks := .later }
def FnExactRestAddCardSaid : Prop := Claim7.holds Tryz.pinned (.plain (OpenSpec.ofChange fnExactRestAddSpec)) fnExactRestAddCard

/-- THE TIED CARD OF 'laws.FnExactRestsAdd'. -/
def fnExactRestsAddCard : Claim7 := { stood := { row := fnExactRestsAddRow, standIns := [], harness := (true, "7249cd01534e23325b1ca2016f3680f9a206fa305ddd469fa7f25c1b72a424a8"), looks := true }, kinds := [], alts := [], laidByText := true, laidKinds := [.data], laidTests := true, laidLooks := .later }
def FnExactRestsAddCardSaid : Prop := Claim7.holds Tryz.pinned (.plain (OpenSpec.ofChange fnExactRestsAddSpec)) fnExactRestsAddCard

/-- THE TIED CARD OF 'laws.FnExactTextPercent'. -/
def fnExactTextPercentCard : Claim7 := { stood := { row := fnExactTextPercentRow, standIns := [], harness := (true, "7249cd01534e23325b1ca2016f3680f9a206fa305ddd469fa7f25c1b72a424a8"), looks := true }, kinds := [], alts := [], laidByText := true, laidKinds := [.data, .data, .data], laidTests := true, laidLooks := .later }
def FnExactTextPercentCardSaid : Prop := Claim7.holds Tryz.pinned (.plain (OpenSpec.ofChange fnExactTextPercentSpec)) fnExactTextPercentCard

/-- THE TIED CARD OF 'laws.FnExactTextSteps'. -/
def fnExactTextStepsCard : Claim7 := { stood := { row := fnExactTextStepsRow, standIns := [], harness := (true, "7249cd01534e23325b1ca2016f3680f9a206fa305ddd469fa7f25c1b72a424a8"), looks := true }, kinds := [], alts := [], laidByText := true, laidKinds := [.data, .data, .data, .sentinel, .sentinel], laidTests := true, laidLooks := .later }
def FnExactTextStepsCardSaid : Prop := Claim7.holds Tryz.pinned (.plain (OpenSpec.ofChange fnExactTextStepsSpec)) fnExactTextStepsCard

/-- THE TIED CARD OF 'laws.FnExactTaxSums'. -/
def fnExactTaxSumsCard : Claim7 := { stood := { row := fnExactTaxSumsRow, standIns := [], harness := (true, "7249cd01534e23325b1ca2016f3680f9a206fa305ddd469fa7f25c1b72a424a8"), looks := true }, kinds := [], alts := [], laidByText := true, laidKinds := [.data], laidTests := true, laidLooks := .later }
def FnExactTaxSumsCardSaid : Prop := Claim7.holds Tryz.pinned (.plain (OpenSpec.ofChange fnExactTaxSumsSpec)) fnExactTaxSumsCard

/-- THE TIED CARD OF 'laws.FnExactLeastPay'. -/
def fnExactLeastPayCard : Claim7 := { stood := { row := fnExactLeastPayRow, standIns := [], harness := (true, "7249cd01534e23325b1ca2016f3680f9a206fa305ddd469fa7f25c1b72a424a8"), looks := true }, kinds := [], alts := [], laidByText := true, laidKinds := [.data], laidTests := true, laidLooks := .later }
def FnExactLeastPayCardSaid : Prop := Claim7.holds Tryz.pinned (.plain (OpenSpec.ofChange fnExactLeastPaySpec)) fnExactLeastPayCard

/-- THE TIED CARD OF 'laws.FnExactPlan'. -/
def fnExactPlanCard : Claim7 := { stood := { row := fnExactPlanRow, standIns := [], harness := (true, "7249cd01534e23325b1ca2016f3680f9a206fa305ddd469fa7f25c1b72a424a8"), looks := true }, kinds := [], alts := [], laidByText := true, laidKinds := [.data], laidTests := true, laidLooks := .later }
def FnExactPlanCardSaid : Prop := Claim7.holds Tryz.pinned (.plain (OpenSpec.ofChange fnExactPlanSpec)) fnExactPlanCard

/-- THE SECOND FORM's CARD OF 'laws.FnExactShareMoney'. -/
def fnExactShareMoneyUptoCard : Claim7 := { stood := { row := fnExactShareMoneyUptoRow, standIns := [], harness := (true, "7249cd01534e23325b1ca2016f3680f9a206fa305ddd469fa7f25c1b72a424a8"), looks := true }, kinds := [], alts := [], laidByText := true, laidKinds := [.data], laidTests := true, laidLooks := .later }
def FnExactShareMoneyUptoCardSaid : Prop := Claim7.holds Tryz.pinned (.plain (OpenSpec.upto fnExactShareMoneySpec)) fnExactShareMoneyUptoCard

/-- THE SECOND FORM's CARD OF 'laws.FnExactRestAdd'. -/
def fnExactRestAddUptoCard : Claim7 := { stood := { row := fnExactRestAddUptoRow, standIns := [], harness := (true, "7249cd01534e23325b1ca2016f3680f9a206fa305ddd469fa7f25c1b72a424a8"), looks := true }, kinds := [], alts := [], laidByText := true, laidKinds := [.data], laidTests := true, laidLooks := .later }
def FnExactRestAddUptoCardSaid : Prop := Claim7.holds Tryz.pinned (.plain (OpenSpec.upto fnExactRestAddSpec)) fnExactRestAddUptoCard

/-- THE SECOND FORM's CARD OF 'laws.FnExactRestsAdd'. -/
def fnExactRestsAddUptoCard : Claim7 := { stood := { row := fnExactRestsAddUptoRow, standIns := [], harness := (true, "7249cd01534e23325b1ca2016f3680f9a206fa305ddd469fa7f25c1b72a424a8"), looks := true }, kinds := [], alts := [], laidByText := true, laidKinds := [.data], laidTests := true, laidLooks := .later }
def FnExactRestsAddUptoCardSaid : Prop := Claim7.holds Tryz.pinned (.plain (OpenSpec.upto fnExactRestsAddSpec)) fnExactRestsAddUptoCard

/-- THE SECOND FORM's CARD OF 'laws.FnExactTextPercent'. -/
def fnExactTextPercentUptoCard : Claim7 := { stood := { row := fnExactTextPercentUptoRow, standIns := [], harness := (true, "7249cd01534e23325b1ca2016f3680f9a206fa305ddd469fa7f25c1b72a424a8"), looks := true }, kinds := [], alts := [], laidByText := true, laidKinds := [.data, .data, .data], laidTests := true, laidLooks := .later }
def FnExactTextPercentUptoCardSaid : Prop := Claim7.holds Tryz.pinned (.plain (OpenSpec.upto fnExactTextPercentSpec)) fnExactTextPercentUptoCard

/-- THE SECOND FORM's CARD OF 'laws.FnExactTextSteps'. -/
def fnExactTextStepsUptoCard : Claim7 := { stood := { row := fnExactTextStepsUptoRow, standIns := [], harness := (true, "7249cd01534e23325b1ca2016f3680f9a206fa305ddd469fa7f25c1b72a424a8"), looks := true }, kinds := [], alts := [], laidByText := true, laidKinds := [.data, .data, .data, .sentinel, .sentinel], laidTests := true, laidLooks := .later }
def FnExactTextStepsUptoCardSaid : Prop := Claim7.holds Tryz.pinned (.plain (OpenSpec.upto fnExactTextStepsSpec)) fnExactTextStepsUptoCard

/-- THE SECOND FORM's CARD OF 'laws.FnExactTaxSums'. -/
def fnExactTaxSumsUptoCard : Claim7 := { stood := { row := fnExactTaxSumsUptoRow, standIns := [], harness := (true, "7249cd01534e23325b1ca2016f3680f9a206fa305ddd469fa7f25c1b72a424a8"), looks := true }, kinds := [], alts := [], laidByText := true, laidKinds := [.data], laidTests := true, laidLooks := .later }
def FnExactTaxSumsUptoCardSaid : Prop := Claim7.holds Tryz.pinned (.plain (OpenSpec.upto fnExactTaxSumsSpec)) fnExactTaxSumsUptoCard

/-- THE SECOND FORM's CARD OF 'laws.FnExactLeastPay'. -/
def fnExactLeastPayUptoCard : Claim7 := { stood := { row := fnExactLeastPayUptoRow, standIns := [], harness := (true, "7249cd01534e23325b1ca2016f3680f9a206fa305ddd469fa7f25c1b72a424a8"), looks := true }, kinds := [], alts := [], laidByText := true, laidKinds := [.data], laidTests := true, laidLooks := .later }
def FnExactLeastPayUptoCardSaid : Prop := Claim7.holds Tryz.pinned (.plain (OpenSpec.upto fnExactLeastPaySpec)) fnExactLeastPayUptoCard

/-- THE SECOND FORM's CARD OF 'laws.FnExactPlan'. -/
def fnExactPlanUptoCard : Claim7 := { stood := { row := fnExactPlanUptoRow, standIns := [], harness := (true, "7249cd01534e23325b1ca2016f3680f9a206fa305ddd469fa7f25c1b72a424a8"), looks := true }, kinds := [], alts := [], laidByText := true, laidKinds := [.data], laidTests := true, laidLooks := .later }
def FnExactPlanUptoCardSaid : Prop := Claim7.holds Tryz.pinned (.plain (OpenSpec.upto fnExactPlanSpec)) fnExactPlanUptoCard
end Rows
end Go.Proofs.YtfehpaekbbmkcaaGreatDoor
