/-
  DERIVED. GIVEN WITH THE SEED: THE CARDS: each row of YtfemmmbkhhemaaaGreatDoorRows.lean that lists a variable, with what it lists TIED to the program's text (the seventh form; the later family's looks); each row that meets fmt, with fmt's text TOLD by the authors' own Lean function (tested against real Go, not proved from fmt's source: count such statements apart). THE CARD IS WHAT COUNTS. Prove the row's statement (the work); the ties are given (YtfemmmbkhhemaaaGreatDoorTie.lean); close each card by the builder's one call (the guide's Derived/Test/ToyasCard.lean, 'card_holds'). Laid BY PROGRAM, IN A SANDBOX (cutbox-door.mjs). By AI agents, Wed Nov 11 2026. No macro, syntax, notation, axiom, sorry.
-/
import Derived.Test.YtfemmmbkhhemaaaGreatDoorRows
import GoSem.ClaimSeven
namespace Go.Proofs.YtfemmmbkhhemaaaGreatDoor
namespace Rows

/-- THE TIED CARD OF 'laws.FnExactTaxOn'. -/
def fnExactTaxOnCard : Claim7 := { stood := { row := fnExactTaxOnRow, standIns := [], harness := (true, "3ead1438263258c7640aca3c1e7bb39ddc889814cc86c83c5ba6524ce6df152e"), looks := false }, kinds := [], alts := [], laidByText := true, laidKinds := [.data], laidTests := true, laidLooks := .later }
def FnExactTaxOnCardSaid : Prop := Claim7.holds Tryz.pinned (.plain (OpenSpec.ofChange fnExactTaxOnSpec)) fnExactTaxOnCard

/-- THE TIED CARD OF 'laws.FnExactTaxIn'. -/
def fnExactTaxInCard : Claim7 := { stood := { row := fnExactTaxInRow, standIns := [], harness := (true, "3ead1438263258c7640aca3c1e7bb39ddc889814cc86c83c5ba6524ce6df152e"), looks := false }, kinds := [], alts := [], laidByText := true, laidKinds := [.data], laidTests := true, laidLooks := .later }
def FnExactTaxInCardSaid : Prop := Claim7.holds Tryz.pinned (.plain (OpenSpec.ofChange fnExactTaxInSpec)) fnExactTaxInCard

/-- THE TIED CARD OF 'laws.FnExactNextRow'. -/
def fnExactNextRowCard : Claim7 := { stood := { row := fnExactNextRowRow, standIns := [], harness := (true, "3ead1438263258c7640aca3c1e7bb39ddc889814cc86c83c5ba6524ce6df152e"), looks := false }, kinds := [], alts := [], laidByText := true, laidKinds := [.data], laidTests := true, laidLooks := .later }
def FnExactNextRowCardSaid : Prop := Claim7.holds Tryz.pinned (.plain (OpenSpec.ofChange fnExactNextRowSpec)) fnExactNextRowCard

/-- THE TIED CARD OF 'laws.FnExactFee'. -/
def fnExactFeeCard : Claim7 := { stood := { row := fnExactFeeRow, standIns := [], harness := (true, "3ead1438263258c7640aca3c1e7bb39ddc889814cc86c83c5ba6524ce6df152e"), looks := false }, kinds := [], alts := [], laidByText := true, laidKinds := [.data], laidTests := true, laidLooks := .later }
def FnExactFeeCardSaid : Prop := Claim7.holds Tryz.pinned (.plain (OpenSpec.ofChange fnExactFeeSpec)) fnExactFeeCard

/-- THE TIED CARD OF 'laws.FnExactAfterFee'. -/
def fnExactAfterFeeCard : Claim7 := { stood := { row := fnExactAfterFeeRow, standIns := [], harness := (true, "3ead1438263258c7640aca3c1e7bb39ddc889814cc86c83c5ba6524ce6df152e"), looks := false }, kinds := [], alts := [], laidByText := true, laidKinds := [.data], laidTests := true, laidLooks := .later }
def FnExactAfterFeeCardSaid : Prop := Claim7.holds Tryz.pinned (.plain (OpenSpec.ofChange fnExactAfterFeeSpec)) fnExactAfterFeeCard

/-- THE SECOND FORM's CARD OF 'laws.FnExactTaxOn'. -/
def fnExactTaxOnUptoCard : Claim7 := { stood := { row := fnExactTaxOnUptoRow, standIns := [], harness := (true, "3ead1438263258c7640aca3c1e7bb39ddc889814cc86c83c5ba6524ce6df152e"), looks := false }, kinds := [], alts := [], laidByText := true, laidKinds := [.data], laidTests := true, laidLooks := .later }
def FnExactTaxOnUptoCardSaid : Prop := Claim7.holds Tryz.pinned (.plain (OpenSpec.upto fnExactTaxOnSpec)) fnExactTaxOnUptoCard

/-- THE SECOND FORM's CARD OF 'laws.FnExactTaxIn'. -/
def fnExactTaxInUptoCard : Claim7 := { stood := { row := fnExactTaxInUptoRow, standIns := [], harness := (true, "3ead1438263258c7640aca3c1e7bb39ddc889814cc86c83c5ba6524ce6df152e"), looks := false }, kinds := [], alts := [], laidByText := true, laidKinds := [.data], laidTests := true, laidLooks := .later }
def FnExactTaxInUptoCardSaid : Prop := Claim7.holds Tryz.pinned (.plain (OpenSpec.upto fnExactTaxInSpec)) fnExactTaxInUptoCard

/-- THE SECOND FORM's CARD OF 'laws.FnExactNextRow'. -/
def fnExactNextRowUptoCard : Claim7 := { stood := { row := fnExactNextRowUptoRow, standIns := [], harness := (true, "3ead1438263258c7640aca3c1e7bb39ddc889814cc86c83c5ba6524ce6df152e"), looks := false }, kinds := [], alts := [], laidByText := true, laidKinds := [.data], laidTests := true, laidLooks := .later }
def FnExactNextRowUptoCardSaid : Prop := Claim7.holds Tryz.pinned (.plain (OpenSpec.upto fnExactNextRowSpec)) fnExactNextRowUptoCard

/-- THE SECOND FORM's CARD OF 'laws.FnExactFee'. -/
def fnExactFeeUptoCard : Claim7 := { stood := { row := fnExactFeeUptoRow, standIns := [], harness := (true, "3ead1438263258c7640aca3c1e7bb39ddc889814cc86c83c5ba6524ce6df152e"), looks := false }, kinds := [], alts := [], laidByText := true, laidKinds := [.data], laidTests := true, laidLooks := .later }
def FnExactFeeUptoCardSaid : Prop := Claim7.holds Tryz.pinned (.plain (OpenSpec.upto fnExactFeeSpec)) fnExactFeeUptoCard

/-- THE SECOND FORM's CARD OF 'laws.FnExactAfterFee'. -/
def fnExactAfterFeeUptoCard : Claim7 := { stood := { row := fnExactAfterFeeUptoRow, standIns := [], harness := (true, "3ead1438263258c7640aca3c1e7bb39ddc889814cc86c83c5ba6524ce6df152e"), looks := false }, kinds := [], alts := [], laidByText := true, laidKinds := [.data], laidTests := true, laidLooks := .later }
def FnExactAfterFeeUptoCardSaid : Prop := Claim7.holds Tryz.pinned (.plain (OpenSpec.upto fnExactAfterFeeSpec)) fnExactAfterFeeUptoCard
end Rows
end Go.Proofs.YtfemmmbkhhemaaaGreatDoor
