/-
  Contracts: a decimal number brought to a scale, in the program.
-/
import Derived.Test.YtfbmjimhjlmhkaaDoorCDec
import Derived.Test.YtfbmjimhjlmhkaaDoorCCmp
namespace Go.Proofs.YtfbmjimhjlmhkaaDoor
open Go Go.Proofs.YtfbmjimhjlmhkaaDoor.Sx
set_option linter.unusedVariables false
set_option linter.unusedSimpArgs false

end Go.Proofs.YtfbmjimhjlmhkaaDoor
