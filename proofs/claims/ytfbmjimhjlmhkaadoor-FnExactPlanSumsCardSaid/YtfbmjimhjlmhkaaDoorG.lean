/-
  The texts of this translation, together.
-/
import Derived.Test.YtfbmjimhjlmhkaaDoorG1
import Derived.Test.YtfbmjimhjlmhkaaDoorG2
import Derived.Test.YtfbmjimhjlmhkaaDoorG3
