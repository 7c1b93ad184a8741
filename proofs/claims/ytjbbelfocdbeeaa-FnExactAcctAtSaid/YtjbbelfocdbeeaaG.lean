/-
  The texts of this translation, together.
-/
import Derived.Test.YtjbbelfocdbeeaaG1
