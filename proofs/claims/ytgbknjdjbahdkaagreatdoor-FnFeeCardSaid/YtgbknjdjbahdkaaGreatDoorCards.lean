/-
  DERIVED. GIVEN WITH THE SEED: THE CARDS: each row of YtgbknjdjbahdkaaGreatDoorRows.lean that lists a variable, with what it lists TIED to the program's text (the seventh form; the later family's looks); each row that meets fmt, with fmt's text TOLD by the authors' own Lean function (tested against real Go, not proved from fmt's source: count such statements apart). THE CARD IS WHAT COUNTS. Prove the row's statement (the work); the ties are given (YtgbknjdjbahdkaaGreatDoorTie.lean); close each card by the builder's one call (the guide's Derived/Test/ToyasCard.lean, 'card_holds'). Laid BY PROGRAM, IN A SANDBOX (cutbox-door.mjs). By AI agents, Wed Nov 11 2026. No macro, syntax, notation, axiom, sorry.
-/
import Derived.Test.YtgbknjdjbahdkaaGreatDoorRows
import GoSem.ClaimSeven
namespace Go.Proofs.YtgbknjdjbahdkaaGreatDoor
namespace Rows

/-- THE TIED CARD OF 'laws.FnExactTextSteps'. -/
def fnExactTextStepsCard : Claim7 := { stood := { row := fnExactTextStepsRow, standIns := [], harness := (true, "483590478072eb95f3022e9b2cd9245782a482c488b475d5bf93bec09d04234c"), looks := true }, kinds := [], alts := [], laidByText := true, laidKinds := [.data, .data, .data, .sentinel, .sentinel], laidTests := true, laidLooks := .later }
def FnExactTextStepsCardSaid : Prop := Claim7.holds Tryz.pinned (.plain (OpenSpec.ofChange fnExactTextStepsSpec)) fnExactTextStepsCard

/-- THE TIED CARD OF 'laws.FnFee'. -/
def fnFeeCard : Claim7 := { stood := { row := fnFeeRow, standIns := [], harness := (true, "483590478072eb95f3022e9b2cd9245782a482c488b475d5bf93bec09d04234c"), looks := true }, kinds := [], alts := [], laidByText := true, laidKinds := [.data, .data, .data, .sentinel, .sentinel, .data], laidTests := true, laidLooks := .later }
def FnFeeCardSaid : Prop := Claim7.holds Tryz.pinned (.plain (OpenSpec.ofChange fnFeeSpec)) fnFeeCard

/-- THE SECOND FORM's CARD OF 'laws.FnExactTextSteps'. -/
def fnExactTextStepsUptoCard : Claim7 := { stood := { row := fnExactTextStepsUptoRow, standIns := [], harness := (true, "483590478072eb95f3022e9b2cd9245782a482c488b475d5bf93bec09d04234c"), looks := true }, kinds := [], alts := [], laidByText := true, laidKinds := [.data, .data, .data, .sentinel, .sentinel], laidTests := true, laidLooks := .later }
def FnExactTextStepsUptoCardSaid : Prop := Claim7.holds Tryz.pinned (.plain (OpenSpec.upto fnExactTextStepsSpec)) fnExactTextStepsUptoCard

/-- THE SECOND FORM's CARD OF 'laws.FnFee'. -/
def fnFeeUptoCard : Claim7 := { stood := { row := fnFeeUptoRow, standIns := [], harness := (true, "483590478072eb95f3022e9b2cd9245782a482c488b475d5bf93bec09d04234c"), looks := true }, kinds := [], alts := [], laidByText := true, laidKinds := [.data, .data, .data, .sentinel, .sentinel, .data], laidTests := true, laidLooks := .later }
def FnFeeUptoCardSaid : Prop := Claim7.holds Tryz.pinned (.plain (OpenSpec.upto fnFeeSpec)) fnFeeUptoCard
end Rows
end Go.Proofs.YtgbknjdjbahdkaaGreatDoor
