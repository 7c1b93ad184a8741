/-
  The program of this seat, by a short name.
-/
import Derived.Test.YtjbbelfocdbeeaaProg
import Derived.Test.YtjbbelfocdbeeaaSxText
namespace Go.Proofs.Ytjbbelfocdbeeaa
noncomputable abbrev P : Program := Go.Proofs.Try.prog
end Go.Proofs.Ytjbbelfocdbeeaa
