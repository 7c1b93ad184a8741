/-
  The program of this seat, by a short name.
-/
import Derived.Test.YtoacnglkliioaaaProg
import Derived.Test.YtoacnglkliioaaaSxText
namespace Go.Proofs.Ytoacnglkliioaaa
noncomputable abbrev P : Program := Go.Proofs.Try.prog
end Go.Proofs.Ytoacnglkliioaaa
