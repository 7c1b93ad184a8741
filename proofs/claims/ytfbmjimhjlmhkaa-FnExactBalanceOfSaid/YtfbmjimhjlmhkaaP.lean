/-
  The program of this seat, by a short name.
-/
import Derived.Test.YtfbmjimhjlmhkaaProg
import Derived.Test.YtfbmjimhjlmhkaaSxText
namespace Go.Proofs.Ytfbmjimhjlmhkaa
noncomputable abbrev P : Program := Go.Proofs.Try.prog
end Go.Proofs.Ytfbmjimhjlmhkaa
