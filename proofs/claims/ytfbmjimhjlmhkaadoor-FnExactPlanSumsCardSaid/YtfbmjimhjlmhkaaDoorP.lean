/-
  The program of this seat, by a short name.
-/
import Derived.Test.YtfbmjimhjlmhkaaDoorProg
import Derived.Test.YtfbmjimhjlmhkaaDoorSxText
namespace Go.Proofs.YtfbmjimhjlmhkaaDoor
noncomputable abbrev P : Program := Go.Proofs.Tryd.prog
end Go.Proofs.YtfbmjimhjlmhkaaDoor
