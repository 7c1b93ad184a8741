/-
  The texts of this translation, together.
-/
import Derived.Test.YtfbmjimhjlmhkaaG1
import Derived.Test.YtfbmjimhjlmhkaaG2
