/-
  DERIVED. GIVEN WITH THE SEED: THE CARDS: each row of YteakifedfnnmeaaDoorRows.lean that lists a variable, with what it lists TIED to the program's text (the seventh form; the later family's looks); each row that meets fmt, with fmt's text TOLD by the authors' own Lean function (tested against real Go, not proved from fmt's source: count such statements apart). THE CARD IS WHAT COUNTS. Prove the row's statement (the work); the ties are given (YteakifedfnnmeaaDoorTie.lean); close each card by the builder's one call (the guide's Derived/Test/ToyasCard.lean, 'card_holds'). Laid BY PROGRAM, IN A SANDBOX (cutbox-door.mjs). By AI agents, Wed Nov 11 2026. No macro, syntax, notation, axiom, sorry.
-/
import Derived.Test.YteakifedfnnmeaaDoorRows
import GoSem.ClaimSeven
namespace Go.Proofs.YteakifedfnnmeaaDoor
namespace Rows

/-- THE TIED CARD OF 'laws.FnExactBookOpen'. -/
def fnExactBookOpenCard : Claim7 := { stood := { row := fnExactBookOpenRow, standIns := [], harness := (true, "210f5bd0768785c57052337c1feb3591a58ef7409e952a83f00329c9a2e157c1"), looks := false }, kinds := [], alts := [], laidByText := true, laidKinds := [.data], laidTests := true, laidLooks := .later }
def FnExactBookOpenCardSaid : Prop := Claim7.holds Tryd.pinned (.plain (OpenSpec.ofChange fnExactBookOpenSpec)) fnExactBookOpenCard

/-- THE TIED CARD OF 'laws.FnExactBookPost'. -/
def fnExactBookPostCard : Claim7 := { stood := { row := fnExactBookPostRow, standIns := [], harness := (true, "210f5bd0768785c57052337c1feb3591a58ef7409e952a83f00329c9a2e157c1"), looks := false }, kinds := [], alts := [], laidByText := true, laidKinds := [.data], laidTests := true, laidLooks := .later }
def FnExactBookPostCardSaid : Prop := Claim7.holds Tryd.pinned (.plain (OpenSpec.ofChange fnExactBookPostSpec)) fnExactBookPostCard

/-- THE SECOND FORM's CARD OF 'laws.FnExactBookOpen'. -/
def fnExactBookOpenUptoCard : Claim7 := { stood := { row := fnExactBookOpenUptoRow, standIns := [], harness := (true, "210f5bd0768785c57052337c1feb3591a58ef7409e952a83f00329c9a2e157c1"), looks := false }, kinds := [], alts := [], laidByText := true, laidKinds := [.data], laidTests := true, laidLooks := .later }
def FnExactBookOpenUptoCardSaid : Prop := Claim7.holds Tryd.pinned (.plain (OpenSpec.upto fnExactBookOpenSpec)) fnExactBookOpenUptoCard

/-- THE SECOND FORM's CARD OF 'laws.FnExactBookPost'. -/
def fnExactBookPostUptoCard : Claim7 := { stood := { row := fnExactBookPostUptoRow, standIns := [], harness := (true, "210f5bd0768785c57052337c1feb3591a58ef7409e952a83f00329c9a2e157c1"), looks := false }, kinds := [], alts := [], laidByText := true, laidKinds := [.data], laidTests := true, laidLooks := .later }
def FnExactBookPostUptoCardSaid : Prop := Claim7.holds Tryd.pinned (.plain (OpenSpec.upto fnExactBookPostSpec)) fnExactBookPostUptoCard
end Rows
end Go.Proofs.YteakifedfnnmeaaDoor
