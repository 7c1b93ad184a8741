/-
  The two tables of currencies, printed by a program of mine.
-/
import Derived.Test.YtfbmjimhjlmhkaaDoorP
import Derived.Test.YtfbmjimhjlmhkaaDoorNm
namespace Go.Proofs.YtfbmjimhjlmhkaaDoor
open Go Go.Proofs.YtfbmjimhjlmhkaaDoor.Sx

abbrev CurRow := ByteArray × ByteArray × Int × Int
def implTab : List CurRow := [(S [67, 72, 70], S [55, 53, 54], 2, 5), (S [69, 85, 82], S [57, 55, 56], 2, 1), (S [85, 83, 68], S [56, 52, 48], 2, 1), (S [71, 66, 80], S [56, 50, 54], 2, 1), (S [74, 80, 89], S [51, 57, 50], 0, 1), (S [83, 69, 75], S [55, 53, 50], 2, 100), (S [78, 79, 75], S [53, 55, 56], 2, 100), (S [68, 75, 75], S [50, 48, 56], 2, 50), (S [67, 90, 75], S [50, 48, 51], 2, 100), (S [72, 85, 70], S [51, 52, 56], 2, 500), (S [80, 76, 78], S [57, 56, 53], 2, 1), (S [67, 65, 68], S [49, 50, 52], 2, 5), (S [65, 85, 68], S [48, 51, 54], 2, 5), (S [78, 90, 68], S [53, 53, 52], 2, 10), (S [75, 87, 68], S [52, 49, 52], 3, 5), (S [66, 72, 68], S [48, 52, 56], 3, 5), (S [84, 78, 68], S [55, 56, 56], 3, 10), (S [73, 83, 75], S [51, 53, 50], 0, 1), (S [75, 82, 87], S [52, 49, 48], 0, 10), (S [67, 76, 70], S [57, 57, 48], 4, 1)]
def specTab : List CurRow := [(S [65, 85, 68], S [48, 51, 54], 2, 5), (S [66, 72, 68], S [48, 52, 56], 3, 5), (S [67, 65, 68], S [49, 50, 52], 2, 5), (S [67, 72, 70], S [55, 53, 54], 2, 5), (S [67, 76, 70], S [57, 57, 48], 4, 1), (S [67, 90, 75], S [50, 48, 51], 2, 100), (S [68, 75, 75], S [50, 48, 56], 2, 50), (S [69, 85, 82], S [57, 55, 56], 2, 1), (S [71, 66, 80], S [56, 50, 54], 2, 1), (S [72, 85, 70], S [51, 52, 56], 2, 500), (S [73, 83, 75], S [51, 53, 50], 0, 1), (S [74, 80, 89], S [51, 57, 50], 0, 1), (S [75, 82, 87], S [52, 49, 48], 0, 10), (S [75, 87, 68], S [52, 49, 52], 3, 5), (S [78, 79, 75], S [53, 55, 56], 2, 100), (S [78, 90, 68], S [53, 53, 52], 2, 10), (S [80, 76, 78], S [57, 56, 53], 2, 1), (S [83, 69, 75], S [55, 53, 50], 2, 100), (S [84, 78, 68], S [55, 56, 56], 3, 10), (S [85, 83, 68], S [56, 52, 48], 2, 1)]
theorem und_T_impl_currency : ∃ fs, Tryd.prog.underlying T_impl_currency = some (.struct fs) := ⟨_, Tryd.underlying146⟩
theorem und_T_20_impl_currency : Tryd.prog.underlying T_20_impl_currency = some (.array 20 T_impl_currency) := Tryd.underlying163
theorem cur_fields : ∃ fs : Array Field, Tryd.prog.underlying T_impl_currency = some (.struct fs) ∧ fs.size = 4 ∧ (∃ f, fs[0]? = some f ∧ f.type = T_string ∧ f.offset = 0) ∧ (∃ f, fs[1]? = some f ∧ f.type = T_string ∧ f.offset = 1) ∧ (∃ f, fs[2]? = some f ∧ f.type = T_int ∧ f.offset = 2) ∧ (∃ f, fs[3]? = some f ∧ f.type = T_int ∧ f.offset = 3) :=
  ⟨_, Tryd.underlying146, rfl, ⟨_, rfl, rfl, rfl⟩, ⟨_, rfl, rfl, rfl⟩, ⟨_, rfl, rfl, rfl⟩, ⟨_, rfl, rfl, rfl⟩⟩

end Go.Proofs.YtfbmjimhjlmhkaaDoor
