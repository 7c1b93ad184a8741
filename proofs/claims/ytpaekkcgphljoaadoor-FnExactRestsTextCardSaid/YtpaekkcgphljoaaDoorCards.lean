/-
  DERIVED. GIVEN WITH THE SEED: THE CARDS: each row of YtpaekkcgphljoaaDoorRows.lean that lists a variable, with what it lists TIED to the program's text (the seventh form; the later family's looks); each row that meets fmt, with fmt's text TOLD by the authors' own Lean function (tested against real Go, not proved from fmt's source: count such statements apart). THE CARD IS WHAT COUNTS. Prove the row's statement (the work); the ties are given (YtpaekkcgphljoaaDoorTie.lean); close each card by the builder's one call (the guide's Derived/Test/ToyasCard.lean, 'card_holds'). Laid BY PROGRAM, IN A SANDBOX (cutbox-door.mjs). By AI agents, Wed Nov 11 2026. No macro, syntax, notation, axiom, sorry.
-/
import Derived.Test.YtpaekkcgphljoaaDoorRows
import GoSem.ClaimSeven
namespace Go.Proofs.YtpaekkcgphljoaaDoor
namespace Rows

/-- THE TIED CARD OF 'laws.FnExactRestsNeg'. -/
def fnExactRestsNegCard : Claim7 := { stood := { row := fnExactRestsNegRow, standIns := [], harness := (true, "0597164f8b41c618fcb24ab4f53de9e21197de9aa18af9df0900ecfcba9e4d69"), looks := false }, kinds := [], alts := [], laidByText := true, laidKinds := [.data], laidTests := true, laidLooks := .later }
def FnExactRestsNegCardSaid : Prop := Claim7.holds Tryd.pinned (.plain (OpenSpec.ofChange fnExactRestsNegSpec)) fnExactRestsNegCard

/-- THE TIED CARD OF 'laws.FnExactPosText'. -/
def fnExactPosTextCard : Claim7 := { stood := { row := fnExactPosTextRow, standIns := [], harness := (true, "0597164f8b41c618fcb24ab4f53de9e21197de9aa18af9df0900ecfcba9e4d69"), looks := false }, kinds := [], alts := [], laidByText := true, laidKinds := [.data, .data, .data, .data], laidTests := true, laidLooks := .later }
def FnExactPosTextCardSaid : Prop := Claim7.holds Tryd.pinned (.plain (OpenSpec.ofChange fnExactPosTextSpec)) fnExactPosTextCard

/-- THE TIED CARD OF 'laws.FnExactDebtText'. -/
def fnExactDebtTextCard : Claim7 := { stood := { row := fnExactDebtTextRow, standIns := [], harness := (true, "0597164f8b41c618fcb24ab4f53de9e21197de9aa18af9df0900ecfcba9e4d69"), looks := false }, kinds := [], alts := [], laidByText := true, laidKinds := [.data, .data, .data, .data], laidTests := true, laidLooks := .later }
def FnExactDebtTextCardSaid : Prop := Claim7.holds Tryd.pinned (.plain (OpenSpec.ofChange fnExactDebtTextSpec)) fnExactDebtTextCard

/-- THE TIED CARD OF 'laws.FnExactRowText'. -/
def fnExactRowTextCard : Claim7 := { stood := { row := fnExactRowTextRow, standIns := [], harness := (true, "0597164f8b41c618fcb24ab4f53de9e21197de9aa18af9df0900ecfcba9e4d69"), looks := false }, kinds := [], alts := [], laidByText := true, laidKinds := [.data, .data, .data, .data], laidTests := true, laidLooks := .later }
def FnExactRowTextCardSaid : Prop := Claim7.holds Tryd.pinned (.plain (OpenSpec.ofChange fnExactRowTextSpec)) fnExactRowTextCard

/-- THE TIED CARD OF 'laws.FnExactBookText'. -/
def fnExactBookTextCard : Claim7 := { stood := { row := fnExactBookTextRow, standIns := [], harness := (true, "0597164f8b41c618fcb24ab4f53de9e21197de9aa18af9df0900ecfcba9e4d69"), looks := false }, kinds := [], alts := [], laidByText := true, laidKinds := [.data, .data, .data, .data], laidTests := true, laidLooks := .later }
def FnExactBookTextCardSaid : Prop := Claim7.holds Tryd.pinned (.plain (OpenSpec.ofChange fnExactBookTextSpec)) fnExactBookTextCard

/-- THE TIED CARD OF 'laws.FnExactLegsText'. -/
def fnExactLegsTextCard : Claim7 := { stood := { row := fnExactLegsTextRow, standIns := [], harness := (true, "0597164f8b41c618fcb24ab4f53de9e21197de9aa18af9df0900ecfcba9e4d69"), looks := false }, kinds := [], alts := [], laidByText := true, laidKinds := [.data, .data, .data, .data], laidTests := true, laidLooks := .later }
def FnExactLegsTextCardSaid : Prop := Claim7.holds Tryd.pinned (.plain (OpenSpec.ofChange fnExactLegsTextSpec)) fnExactLegsTextCard

/-- THE TIED CARD OF 'laws.FnExactRestsText'. -/
def fnExactRestsTextCard : Claim7 := { stood := { row := fnExactRestsTextRow, standIns := [], harness := (true, "0597164f8b41c618fcb24ab4f53de9e21197de9aa18af9df0900ecfcba9e4d69"), looks := false }, kinds := [], alts := [], laidByText := true, laidKinds := [.data, .data, .data], laidTests := true, laidLooks := .later }
def FnExactRestsTextCardSaid : Prop := Claim7.holds Tryd.pinned (.plain (OpenSpec.ofChange fnExactRestsTextSpec)) fnExactRestsTextCard

/-- THE SECOND FORM's CARD OF 'laws.FnExactRestsNeg'. -/
def fnExactRestsNegUptoCard : Claim7 := { stood := { row := fnExactRestsNegUptoRow, standIns := [], harness := (true, "0597164f8b41c618fcb24ab4f53de9e21197de9aa18af9df0900ecfcba9e4d69"), looks := false }, kinds := [], alts := [], laidByText := true, laidKinds := [.data], laidTests := true, laidLooks := .later }
def FnExactRestsNegUptoCardSaid : Prop := Claim7.holds Tryd.pinned (.plain (OpenSpec.upto fnExactRestsNegSpec)) fnExactRestsNegUptoCard

/-- THE SECOND FORM's CARD OF 'laws.FnExactPosText'. -/
def fnExactPosTextUptoCard : Claim7 := { stood := { row := fnExactPosTextUptoRow, standIns := [], harness := (true, "0597164f8b41c618fcb24ab4f53de9e21197de9aa18af9df0900ecfcba9e4d69"), looks := false }, kinds := [], alts := [], laidByText := true, laidKinds := [.data, .data, .data, .data], laidTests := true, laidLooks := .later }
def FnExactPosTextUptoCardSaid : Prop := Claim7.holds Tryd.pinned (.plain (OpenSpec.upto fnExactPosTextSpec)) fnExactPosTextUptoCard

/-- THE SECOND FORM's CARD OF 'laws.FnExactDebtText'. -/
def fnExactDebtTextUptoCard : Claim7 := { stood := { row := fnExactDebtTextUptoRow, standIns := [], harness := (true, "0597164f8b41c618fcb24ab4f53de9e21197de9aa18af9df0900ecfcba9e4d69"), looks := false }, kinds := [], alts := [], laidByText := true, laidKinds := [.data, .data, .data, .data], laidTests := true, laidLooks := .later }
def FnExactDebtTextUptoCardSaid : Prop := Claim7.holds Tryd.pinned (.plain (OpenSpec.upto fnExactDebtTextSpec)) fnExactDebtTextUptoCard

/-- THE SECOND FORM's CARD OF 'laws.FnExactRowText'. -/
def fnExactRowTextUptoCard : Claim7 := { stood := { row := fnExactRowTextUptoRow, standIns := [], harness := (true, "0597164f8b41c618fcb24ab4f53de9e21197de9aa18af9df0900ecfcba9e4d69"), looks := false }, kinds := [], alts := [], laidByText := true, laidKinds := [.data, .data, .data, .data], laidTests := true, laidLooks := .later }
def FnExactRowTextUptoCardSaid : Prop := Claim7.holds Tryd.pinned (.plain (OpenSpec.upto fnExactRowTextSpec)) fnExactRowTextUptoCard

/-- THE SECOND FORM's CARD OF 'laws.FnExactBookText'. -/
def fnExactBookTextUptoCard : Claim7 := { stood := { row := fnExactBookTextUptoRow, standIns := [], harness := (true, "0597164f8b41c618fcb24ab4f53de9e21197de9aa18af9df0900ecfcba9e4d69"), looks := false }, kinds := [], alts := [], laidByText := true, laidKinds := [.data, .data, .data, .data], laidTests := true, laidLooks := .later }
def FnExactBookTextUptoCardSaid : Prop := Claim7.holds Tryd.pinned (.plain (OpenSpec.upto fnExactBookTextSpec)) fnExactBookTextUptoCard

/-- THE SECOND FORM's CARD OF 'laws.FnExactLegsText'. -/
def fnExactLegsTextUptoCard : Claim7 := { stood := { row := fnExactLegsTextUptoRow, standIns := [], harness := (true, "0597164f8b41c618fcb24ab4f53de9e21197de9aa18af9df0900ecfcba9e4d69"), looks := false }, kinds := [], alts := [], laidByText := true, laidKinds := [.data, .data, .data, .data], laidTests := true, laidLooks := .later }
def FnExactLegsTextUptoCardSaid : Prop := Claim7.holds Tryd.pinned (.plain (OpenSpec.upto fnExactLegsTextSpec)) fnExactLegsTextUptoCard

/-- THE SECOND FORM's CARD OF 'laws.FnExactRestsText'. -/
def fnExactRestsTextUptoCard : Claim7 := { stood := { row := fnExactRestsTextUptoRow, standIns := [], harness := (true, "0597164f8b41c618fcb24ab4f53de9e21197de9aa18af9df0900ecfcba9e4d69"), looks := false }, kinds := [], alts := [], laidByText := true, laidKinds := [.data, .data, .data], laidTests := true, laidLooks := .later }
def FnExactRestsTextUptoCardSaid : Prop := Claim7.holds Tryd.pinned (.plain (OpenSpec.upto fnExactRestsTextSpec)) fnExactRestsTextUptoCard
end Rows
end Go.Proofs.YtpaekkcgphljoaaDoor
