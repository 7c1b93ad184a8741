/-
  The texts of this translation, together.
-/
import Derived.Test.YtoacnglkliioaaaG1
import Derived.Test.YtoacnglkliioaaaG2
import Derived.Test.YtoacnglkliioaaaG3
