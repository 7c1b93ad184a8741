/-
  Contracts: decimal numbers: valid.
-/
import Derived.Test.YtfbmjimhjlmhkaaDoorCTen
namespace Go.Proofs.YtfbmjimhjlmhkaaDoor
open Go Go.Proofs.YtfbmjimhjlmhkaaDoor.Sx
set_option linter.unusedVariables false
set_option linter.unusedSimpArgs false

def decOk : List D0 → Bool
  | [.bool b, .ints z, .int s] => intOk [.bool b, .ints z] && decide (z.length ≤ 6) && decide (0 ≤ s ∧ s ≤ 30)
  | _ => false

end Go.Proofs.YtfbmjimhjlmhkaaDoor
