/-
  DERIVED. GIVEN WITH THE SEED: THE CARDS: each row of YtfbmjimhjlmhkabDoorRows.lean that lists a variable, with what it lists TIED to the program's text (the seventh form; the later family's looks); each row that meets fmt, with fmt's text TOLD by the authors' own Lean function (tested against real Go, not proved from fmt's source: count such statements apart). THE CARD IS WHAT COUNTS. Prove the row's statement (the work); the ties are given (YtfbmjimhjlmhkabDoorTie.lean); close each card by the builder's one call (the guide's Derived/Test/ToyasCard.lean, 'card_holds'). Laid BY PROGRAM, IN A SANDBOX (cutbox-door.mjs). By AI agents, Wed Nov 11 2026. No macro, syntax, notation, axiom, sorry.
-/
import Derived.Test.YtfbmjimhjlmhkabDoorRows
import GoSem.ClaimSeven
namespace Go.Proofs.YtfbmjimhjlmhkabDoor
namespace Rows

/-- THE TIED CARD OF 'laws.FnExactRestsOk'. -/
def fnExactRestsOkCard : Claim7 := { stood := { row := fnExactRestsOkRow, standIns := [], harness := (true, "81a84d40bbe154579c091d268e8f6d7178a8a330da9cf517f25b3ddc40252a14"), looks := false }, kinds := [], alts := [], laidByText := true, laidKinds := [.data], laidTests := true, laidLooks := .later }
def FnExactRestsOkCardSaid : Prop := Claim7.holds Tryd.pinned (.plain (OpenSpec.ofChange fnExactRestsOkSpec)) fnExactRestsOkCard

/-- THE TIED CARD OF 'laws.FnExactBookOpen'. -/
def fnExactBookOpenCard : Claim7 := { stood := { row := fnExactBookOpenRow, standIns := [], harness := (true, "81a84d40bbe154579c091d268e8f6d7178a8a330da9cf517f25b3ddc40252a14"), looks := false }, kinds := [], alts := [], laidByText := true, laidKinds := [.data], laidTests := true, laidLooks := .later }
def FnExactBookOpenCardSaid : Prop := Claim7.holds Tryd.pinned (.plain (OpenSpec.ofChange fnExactBookOpenSpec)) fnExactBookOpenCard

/-- THE TIED CARD OF 'laws.FnExactPosText'. -/
def fnExactPosTextCard : Claim7 := { stood := { row := fnExactPosTextRow, standIns := [], harness := (true, "81a84d40bbe154579c091d268e8f6d7178a8a330da9cf517f25b3ddc40252a14"), looks := false }, kinds := [], alts := [], laidByText := true, laidKinds := [.data, .data, .data, .data], laidTests := true, laidLooks := .later }
def FnExactPosTextCardSaid : Prop := Claim7.holds Tryd.pinned (.plain (OpenSpec.ofChange fnExactPosTextSpec)) fnExactPosTextCard

/-- THE TIED CARD OF 'laws.FnExactBalanced'. -/
def fnExactBalancedCard : Claim7 := { stood := { row := fnExactBalancedRow, standIns := [], harness := (true, "81a84d40bbe154579c091d268e8f6d7178a8a330da9cf517f25b3ddc40252a14"), looks := false }, kinds := [], alts := [], laidByText := true, laidKinds := [.data], laidTests := true, laidLooks := .later }
def FnExactBalancedCardSaid : Prop := Claim7.holds Tryd.pinned (.plain (OpenSpec.ofChange fnExactBalancedSpec)) fnExactBalancedCard

/-- THE TIED CARD OF 'laws.FnExactDebtText'. -/
def fnExactDebtTextCard : Claim7 := { stood := { row := fnExactDebtTextRow, standIns := [], harness := (true, "81a84d40bbe154579c091d268e8f6d7178a8a330da9cf517f25b3ddc40252a14"), looks := false }, kinds := [], alts := [], laidByText := true, laidKinds := [.data, .data, .data, .data], laidTests := true, laidLooks := .later }
def FnExactDebtTextCardSaid : Prop := Claim7.holds Tryd.pinned (.plain (OpenSpec.ofChange fnExactDebtTextSpec)) fnExactDebtTextCard

/-- THE TIED CARD OF 'laws.FnExactRestsNeg'. -/
def fnExactRestsNegCard : Claim7 := { stood := { row := fnExactRestsNegRow, standIns := [], harness := (true, "81a84d40bbe154579c091d268e8f6d7178a8a330da9cf517f25b3ddc40252a14"), looks := false }, kinds := [], alts := [], laidByText := true, laidKinds := [.data], laidTests := true, laidLooks := .later }
def FnExactRestsNegCardSaid : Prop := Claim7.holds Tryd.pinned (.plain (OpenSpec.ofChange fnExactRestsNegSpec)) fnExactRestsNegCard

/-- THE TIED CARD OF 'laws.FnExactBookPost'. -/
def fnExactBookPostCard : Claim7 := { stood := { row := fnExactBookPostRow, standIns := [], harness := (true, "81a84d40bbe154579c091d268e8f6d7178a8a330da9cf517f25b3ddc40252a14"), looks := false }, kinds := [], alts := [], laidByText := true, laidKinds := [.data], laidTests := true, laidLooks := .later }
def FnExactBookPostCardSaid : Prop := Claim7.holds Tryd.pinned (.plain (OpenSpec.ofChange fnExactBookPostSpec)) fnExactBookPostCard

/-- THE SECOND FORM's CARD OF 'laws.FnExactRestsOk'. -/
def fnExactRestsOkUptoCard : Claim7 := { stood := { row := fnExactRestsOkUptoRow, standIns := [], harness := (true, "81a84d40bbe154579c091d268e8f6d7178a8a330da9cf517f25b3ddc40252a14"), looks := false }, kinds := [], alts := [], laidByText := true, laidKinds := [.data], laidTests := true, laidLooks := .later }
def FnExactRestsOkUptoCardSaid : Prop := Claim7.holds Tryd.pinned (.plain (OpenSpec.upto fnExactRestsOkSpec)) fnExactRestsOkUptoCard

/-- THE SECOND FORM's CARD OF 'laws.FnExactBookOpen'. -/
def fnExactBookOpenUptoCard : Claim7 := { stood := { row := fnExactBookOpenUptoRow, standIns := [], harness := (true, "81a84d40bbe154579c091d268e8f6d7178a8a330da9cf517f25b3ddc40252a14"), looks := false }, kinds := [], alts := [], laidByText := true, laidKinds := [.data], laidTests := true, laidLooks := .later }
def FnExactBookOpenUptoCardSaid : Prop := Claim7.holds Tryd.pinned (.plain (OpenSpec.upto fnExactBookOpenSpec)) fnExactBookOpenUptoCard

/-- THE SECOND FORM's CARD OF 'laws.FnExactPosText'. -/
def fnExactPosTextUptoCard : Claim7 := { stood := { row := fnExactPosTextUptoRow, standIns := [], harness := (true, "81a84d40bbe154579c091d268e8f6d7178a8a330da9cf517f25b3ddc40252a14"), looks := false }, kinds := [], alts := [], laidByText := true, laidKinds := [.data, .data, .data, .data], laidTests := true, laidLooks := .later }
def FnExactPosTextUptoCardSaid : Prop := Claim7.holds Tryd.pinned (.plain (OpenSpec.upto fnExactPosTextSpec)) fnExactPosTextUptoCard

/-- THE SECOND FORM's CARD OF 'laws.FnExactBalanced'. -/
def fnExactBalancedUptoCard : Claim7 := { stood := { row := fnExactBalancedUptoRow, standIns := [], harness := (true, "81a84d40bbe154579c091d268e8f6d7178a8a330da9cf517f25b3ddc40252a14"), looks := false }, kinds := [], alts := [], laidByText := true, laidKinds := [.data], laidTests := true, laidLooks := .later }
def FnExactBalancedUptoCardSaid : Prop := Claim7.holds Tryd.pinned (.plain (OpenSpec.upto fnExactBalancedSpec)) fnExactBalancedUptoCard

/-- THE SECOND FORM's CARD OF 'laws.FnExactDebtText'. -/
def fnExactDebtTextUptoCard : Claim7 := { stood := { row := fnExactDebtTextUptoRow, standIns := [], harness := (true, "81a84d40bbe154579c091d268e8f6d7178a8a330da9cf517f25b3ddc40252a14"), looks := false }, kinds := [], alts := [], laidByText := true, laidKinds := [.data, .data, .data, .data], laidTests := true, laidLooks := .later }
def FnExactDebtTextUptoCardSaid : Prop := Claim7.holds Tryd.pinned (.plain (OpenSpec.upto fnExactDebtTextSpec)) fnExactDebtTextUptoCard

/-- THE SECOND FORM's CARD OF 'laws.FnExactRestsNeg'. -/
def fnExactRestsNegUptoCard : Claim7 := { stood := { row := fnExactRestsNegUptoRow, standIns := [], harness := (true, "81a84d40bbe154579c091d268e8f6d7178a8a330da9cf517f25b3ddc40252a14"), looks := false }, kinds := [], alts := [], laidByText := true, laidKinds := [.data], laidTests := true, laidLooks := .later }
def FnExactRestsNegUptoCardSaid : Prop := Claim7.holds Tryd.pinned (.plain (OpenSpec.upto fnExactRestsNegSpec)) fnExactRestsNegUptoCard

/-- THE SECOND FORM's CARD OF 'laws.FnExactBookPost'. -/
def fnExactBookPostUptoCard : Claim7 := { stood := { row := fnExactBookPostUptoRow, standIns := [], harness := (true, "81a84d40bbe154579c091d268e8f6d7178a8a330da9cf517f25b3ddc40252a14"), looks := false }, kinds := [], alts := [], laidByText := true, laidKinds := [.data], laidTests := true, laidLooks := .later }
def FnExactBookPostUptoCardSaid : Prop := Claim7.holds Tryd.pinned (.plain (OpenSpec.upto fnExactBookPostSpec)) fnExactBookPostUptoCard
end Rows
end Go.Proofs.YtfbmjimhjlmhkabDoor
