/-
  DERIVED. GIVEN WITH THE SEED: THE CARDS: each row of YtmajiilehdpdmaaGreatDoorRows.lean that lists a variable, with what it lists TIED to the program's text (the seventh form; the later family's looks); each row that meets fmt, with fmt's text TOLD by the authors' own Lean function (tested against real Go, not proved from fmt's source: count such statements apart). THE CARD IS WHAT COUNTS. Prove the row's statement (the work); the ties are given (YtmajiilehdpdmaaGreatDoorTie.lean); close each card by the builder's one call (the guide's Derived/Test/ToyasCard.lean, 'card_holds'). Laid BY PROGRAM, IN A SANDBOX (cutbox-door.mjs). By AI agents, Wed Nov 11 2026. No macro, syntax, notation, axiom, sorry.
-/
import Derived.Test.YtmajiilehdpdmaaGreatDoorRows
import GoSem.ClaimSeven
namespace Go.Proofs.YtmajiilehdpdmaaGreatDoor
namespace Rows

/-- THE TIED CARD OF 'laws.FnExactFee'. -/
def fnExactFeeCard : Claim7 := { stood := { row := fnExactFeeRow, standIns := [], harness := (true, "e76684752a1274fb5c5b57ab1044bbf1fc8ed5e81da059a3984d172e733efc84"), looks := false }, kinds := [], alts := [], laidByText := true, laidKinds := [.data], laidTests := true, laidLooks := .later }
def FnExactFeeCardSaid : Prop := Claim7.holds Tryz.pinned (.plain (OpenSpec.ofChange fnExactFeeSpec)) fnExactFeeCard

/-- THE TIED CARD OF 'laws.FnExactAfterFee'. -/
def fnExactAfterFeeCard : Claim7 := { stood := { row := fnExactAfterFeeRow, standIns := [], harness := (true, "e76684752a1274fb5c5b57ab1044bbf1fc8ed5e81da059a3984d172e733efc84"), looks := false }, kinds := [], alts := [], laidByText := true, laidKinds := [.data], laidTests := true, laidLooks := .later }
def FnExactAfterFeeCardSaid : Prop := Claim7.holds Tryz.pinned (.plain (OpenSpec.ofChange fnExactAfterFeeSpec)) fnExactAfterFeeCard

/-- THE SECOND FORM's CARD OF 'laws.FnExactFee'. -/
def fnExactFeeUptoCard : Claim7 := { stood := { row := fnExactFeeUptoRow, standIns := [], harness := (true, "e76684752a1274fb5c5b57ab1044bbf1fc8ed5e81da059a3984d172e733efc84"), looks := false }, kinds := [], alts := [], laidByText := true, laidKinds := [.data], laidTests := true, laidLooks := .later }
def FnExactFeeUptoCardSaid : Prop := Claim7.holds Tryz.pinned (.plain (OpenSpec.upto fnExactFeeSpec)) fnExactFeeUptoCard

/-- THE SECOND FORM's CARD OF 'laws.FnExactAfterFee'. -/
def fnExactAfterFeeUptoCard : Claim7 := { stood := { row := fnExactAfterFeeUptoRow, standIns := [], harness := (true, "e76684752a1274fb5c5b57ab1044bbf1fc8ed5e81da059a3984d172e733efc84"), looks := false }, kinds := [], alts := [], laidByText := true, laidKinds := [.data], laidTests := true, laidLooks := .later }
def FnExactAfterFeeUptoCardSaid : Prop := Claim7.holds Tryz.pinned (.plain (OpenSpec.upto fnExactAfterFeeSpec)) fnExactAfterFeeUptoCard
end Rows
end Go.Proofs.YtmajiilehdpdmaaGreatDoor
