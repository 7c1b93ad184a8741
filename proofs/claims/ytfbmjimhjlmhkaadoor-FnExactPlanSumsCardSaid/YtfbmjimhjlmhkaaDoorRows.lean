/-
  NARROWER THAN 'FOR EVERY INPUT', by the rows' own cells (each row's printed sentence says how): FnExactLegsOk: laid · FnExactBookOk: laid · FnExactDebtsOk: laid · FnExactUndo: laid · FnExactPlanSums: laid · FnExactBookSum: laid · FnExactTaxTotal: laid.
  DERIVED. THE GIVEN ROWS OF THIS SEAT. 7 by the template 'for every input the law returns true; each argument reads behind the call as it read before'; 0 by the template 'total and deterministic' (their statements: YtfbmjimhjlmhkaaDoorTotals.lean).
  GIVEN WITH THE SEED: the statements are not yours to turn. If you find one false, say at which input.
  Laid BY PROGRAM, IN A SANDBOX (cutbox-rows.mjs): the forced cells as the released guide's own fill.sh prints them over the translation 4606e7ae293ce775… (all of the seat's roots in one cut). By AI agents, Wed Nov 11 2026. No macro, syntax, notation, axiom, sorry.
-/
import Derived.Test.YtfbmjimhjlmhkaaDoorChecked
import GoSem.Claim
import GoSem.ClaimJoined
import GoSem.ClaimMapViews
import Derived.JoinedTies
import Derived.KernelRfl
namespace Go.Proofs.YtfbmjimhjlmhkaaDoor
/- THE CELL 'sum', in the pinned program and in every row, IS THE sha256 OF THE DUMP (.gsa) THAT YtfbmjimhjlmhkaaDoorProg.lean LOADS. Nothing in Lean hashes anything: it is a label: what it is worth is what the hold of that sum in a sandbox is worth. -/
noncomputable def Tryd.pinned : Pinned := { name := "ytfbmjimhjlmhkaadoor", sum := "4606e7ae293ce775d04fa784091e62e11efc74f8a8f0eb19e9fa09bbcf1fd096", checked := Tryd.checked }
namespace Rows
def none {H : Type} : Left H := { results := [], args := [] }

/- WHAT THE LISTED PACKAGE-LEVEL VARIABLES READ AS WHEN THE CALL BEGINS. Each datum BY PROGRAM (the guide's laid-datum.mjs) off the statement by which the dump's own 'gosem.cut.vars' lays the variable. In a bare row this is a premise. The card (YtfbmjimhjlmhkaaDoorCards.lean) ties it to the program's text. -/
def laid_loop_example_g00793_impl_currencies {H : Type} : DataW H := .agg [.agg [.lit (.string [67, 72, 70]), .lit (.string [55, 53, 54]), .lit (.int .i64 2), .lit (.int .i64 5)], .agg [.lit (.string [69, 85, 82]), .lit (.string [57, 55, 56]), .lit (.int .i64 2), .lit (.int .i64 1)], .agg [.lit (.string [85, 83, 68]), .lit (.string [56, 52, 48]), .lit (.int .i64 2), .lit (.int .i64 1)], .agg [.lit (.string [71, 66, 80]), .lit (.string [56, 50, 54]), .lit (.int .i64 2), .lit (.int .i64 1)], .agg [.lit (.string [74, 80, 89]), .lit (.string [51, 57, 50]), .lit (.int .i64 0), .lit (.int .i64 1)], .agg [.lit (.string [83, 69, 75]), .lit (.string [55, 53, 50]), .lit (.int .i64 2), .lit (.int .i64 100)], .agg [.lit (.string [78, 79, 75]), .lit (.string [53, 55, 56]), .lit (.int .i64 2), .lit (.int .i64 100)], .agg [.lit (.string [68, 75, 75]), .lit (.string [50, 48, 56]), .lit (.int .i64 2), .lit (.int .i64 50)], .agg [.lit (.string [67, 90, 75]), .lit (.string [50, 48, 51]), .lit (.int .i64 2), .lit (.int .i64 100)], .agg [.lit (.string [72, 85, 70]), .lit (.string [51, 52, 56]), .lit (.int .i64 2), .lit (.int .i64 500)], .agg [.lit (.string [80, 76, 78]), .lit (.string [57, 56, 53]), .lit (.int .i64 2), .lit (.int .i64 1)], .agg [.lit (.string [67, 65, 68]), .lit (.string [49, 50, 52]), .lit (.int .i64 2), .lit (.int .i64 5)], .agg [.lit (.string [65, 85, 68]), .lit (.string [48, 51, 54]), .lit (.int .i64 2), .lit (.int .i64 5)], .agg [.lit (.string [78, 90, 68]), .lit (.string [53, 53, 52]), .lit (.int .i64 2), .lit (.int .i64 10)], .agg [.lit (.string [75, 87, 68]), .lit (.string [52, 49, 52]), .lit (.int .i64 3), .lit (.int .i64 5)], .agg [.lit (.string [66, 72, 68]), .lit (.string [48, 52, 56]), .lit (.int .i64 3), .lit (.int .i64 5)], .agg [.lit (.string [84, 78, 68]), .lit (.string [55, 56, 56]), .lit (.int .i64 3), .lit (.int .i64 10)], .agg [.lit (.string [73, 83, 75]), .lit (.string [51, 53, 50]), .lit (.int .i64 0), .lit (.int .i64 1)], .agg [.lit (.string [75, 82, 87]), .lit (.string [52, 49, 48]), .lit (.int .i64 0), .lit (.int .i64 10)], .agg [.lit (.string [67, 76, 70]), .lit (.string [57, 57, 48]), .lit (.int .i64 4), .lit (.int .i64 1)]]

/-- 'laws.FnExactLegsOk': WHATEVER THE INPUT: true; the input reads as it did. -/
def fnExactLegsOkSpec : ChangeSpec := { name := "fnExactLegsOk", vars := ["loop.example/g00793/impl.currencies"], fn := fun _ => fun
  | [d, g1] => { results := [.lit (.bool true)], args := [d], vars := [g1] }
  | _ => none }
def fnExactLegsOkRow : OpenClaim := { program := "ytfbmjimhjlmhkaadoor", sum := "4606e7ae293ce775d04fa784091e62e11efc74f8a8f0eb19e9fa09bbcf1fd096", func := "loop.example/g00793/laws.FnExactLegsOk", spec := "fnExactLegsOk", named := ["loop.example/g00793/impl.currencies"], apart := false, laid := [("loop.example/g00793/impl.currencies", laid_loop_example_g00793_impl_currencies)] }
def FnExactLegsOkSaid : Prop := fnExactLegsOkRow.holds Tryd.pinned (OpenSpec.ofChange fnExactLegsOkSpec)

/-- ITS FALSE NEIGHBOUR: 'it returns false'. Refute it at one input. -/
def fnExactLegsOkWrong : ChangeSpec := { name := "fnExactLegsOk", vars := ["loop.example/g00793/impl.currencies"], fn := fun _ => fun
  | [d, g1] => { results := [.lit (.bool false)], args := [d], vars := [g1] }
  | _ => none }
def FnExactLegsOkWrongFalsely : Prop := fnExactLegsOkRow.holds Tryd.pinned (OpenSpec.ofChange fnExactLegsOkWrong)

/-- 'laws.FnExactBookOk': WHATEVER THE INPUT: true; the input reads as it did. -/
def fnExactBookOkSpec : ChangeSpec := { name := "fnExactBookOk", vars := ["loop.example/g00793/impl.currencies"], fn := fun _ => fun
  | [d, g1] => { results := [.lit (.bool true)], args := [d], vars := [g1] }
  | _ => none }
def fnExactBookOkRow : OpenClaim := { program := "ytfbmjimhjlmhkaadoor", sum := "4606e7ae293ce775d04fa784091e62e11efc74f8a8f0eb19e9fa09bbcf1fd096", func := "loop.example/g00793/laws.FnExactBookOk", spec := "fnExactBookOk", named := ["loop.example/g00793/impl.currencies"], apart := false, laid := [("loop.example/g00793/impl.currencies", laid_loop_example_g00793_impl_currencies)] }
def FnExactBookOkSaid : Prop := fnExactBookOkRow.holds Tryd.pinned (OpenSpec.ofChange fnExactBookOkSpec)

/-- ITS FALSE NEIGHBOUR: 'it returns false'. Refute it at one input. -/
def fnExactBookOkWrong : ChangeSpec := { name := "fnExactBookOk", vars := ["loop.example/g00793/impl.currencies"], fn := fun _ => fun
  | [d, g1] => { results := [.lit (.bool false)], args := [d], vars := [g1] }
  | _ => none }
def FnExactBookOkWrongFalsely : Prop := fnExactBookOkRow.holds Tryd.pinned (OpenSpec.ofChange fnExactBookOkWrong)

/-- 'laws.FnExactDebtsOk': WHATEVER THE INPUT: true; the input reads as it did. -/
def fnExactDebtsOkSpec : ChangeSpec := { name := "fnExactDebtsOk", vars := ["loop.example/g00793/impl.currencies"], fn := fun _ => fun
  | [d1, d2, g1] => { results := [.lit (.bool true)], args := [d1, d2], vars := [g1] }
  | _ => none }
def fnExactDebtsOkRow : OpenClaim := { program := "ytfbmjimhjlmhkaadoor", sum := "4606e7ae293ce775d04fa784091e62e11efc74f8a8f0eb19e9fa09bbcf1fd096", func := "loop.example/g00793/laws.FnExactDebtsOk", spec := "fnExactDebtsOk", named := ["loop.example/g00793/impl.currencies"], apart := false, laid := [("loop.example/g00793/impl.currencies", laid_loop_example_g00793_impl_currencies)] }
def FnExactDebtsOkSaid : Prop := fnExactDebtsOkRow.holds Tryd.pinned (OpenSpec.ofChange fnExactDebtsOkSpec)

/-- ITS FALSE NEIGHBOUR: 'it returns false'. Refute it at one input. -/
def fnExactDebtsOkWrong : ChangeSpec := { name := "fnExactDebtsOk", vars := ["loop.example/g00793/impl.currencies"], fn := fun _ => fun
  | [d1, d2, g1] => { results := [.lit (.bool false)], args := [d1, d2], vars := [g1] }
  | _ => none }
def FnExactDebtsOkWrongFalsely : Prop := fnExactDebtsOkRow.holds Tryd.pinned (OpenSpec.ofChange fnExactDebtsOkWrong)

/-- 'laws.FnExactUndo': WHATEVER THE INPUT: true; the input reads as it did. -/
def fnExactUndoSpec : ChangeSpec := { name := "fnExactUndo", vars := ["loop.example/g00793/impl.currencies"], fn := fun _ => fun
  | [d, g1] => { results := [.lit (.bool true)], args := [d], vars := [g1] }
  | _ => none }
def fnExactUndoRow : OpenClaim := { program := "ytfbmjimhjlmhkaadoor", sum := "4606e7ae293ce775d04fa784091e62e11efc74f8a8f0eb19e9fa09bbcf1fd096", func := "loop.example/g00793/laws.FnExactUndo", spec := "fnExactUndo", named := ["loop.example/g00793/impl.currencies"], apart := false, laid := [("loop.example/g00793/impl.currencies", laid_loop_example_g00793_impl_currencies)] }
def FnExactUndoSaid : Prop := fnExactUndoRow.holds Tryd.pinned (OpenSpec.ofChange fnExactUndoSpec)

/-- ITS FALSE NEIGHBOUR: 'it returns false'. Refute it at one input. -/
def fnExactUndoWrong : ChangeSpec := { name := "fnExactUndo", vars := ["loop.example/g00793/impl.currencies"], fn := fun _ => fun
  | [d, g1] => { results := [.lit (.bool false)], args := [d], vars := [g1] }
  | _ => none }
def FnExactUndoWrongFalsely : Prop := fnExactUndoRow.holds Tryd.pinned (OpenSpec.ofChange fnExactUndoWrong)

/-- 'laws.FnExactPlanSums': WHATEVER THE INPUT: true; the input reads as it did. -/
def fnExactPlanSumsSpec : ChangeSpec := { name := "fnExactPlanSums", vars := ["loop.example/g00793/impl.currencies"], fn := fun _ => fun
  | [d1, d2, g1] => { results := [.lit (.bool true)], args := [d1, d2], vars := [g1] }
  | _ => none }
def fnExactPlanSumsRow : OpenClaim := { program := "ytfbmjimhjlmhkaadoor", sum := "4606e7ae293ce775d04fa784091e62e11efc74f8a8f0eb19e9fa09bbcf1fd096", func := "loop.example/g00793/laws.FnExactPlanSums", spec := "fnExactPlanSums", named := ["loop.example/g00793/impl.currencies"], apart := false, laid := [("loop.example/g00793/impl.currencies", laid_loop_example_g00793_impl_currencies)] }
def FnExactPlanSumsSaid : Prop := fnExactPlanSumsRow.holds Tryd.pinned (OpenSpec.ofChange fnExactPlanSumsSpec)

/-- ITS FALSE NEIGHBOUR: 'it returns false'. Refute it at one input. -/
def fnExactPlanSumsWrong : ChangeSpec := { name := "fnExactPlanSums", vars := ["loop.example/g00793/impl.currencies"], fn := fun _ => fun
  | [d1, d2, g1] => { results := [.lit (.bool false)], args := [d1, d2], vars := [g1] }
  | _ => none }
def FnExactPlanSumsWrongFalsely : Prop := fnExactPlanSumsRow.holds Tryd.pinned (OpenSpec.ofChange fnExactPlanSumsWrong)

/-- 'laws.FnExactBookSum': WHATEVER THE INPUT: true; the input reads as it did. -/
def fnExactBookSumSpec : ChangeSpec := { name := "fnExactBookSum", vars := ["loop.example/g00793/impl.currencies"], fn := fun _ => fun
  | [d1, d2, g1] => { results := [.lit (.bool true)], args := [d1, d2], vars := [g1] }
  | _ => none }
def fnExactBookSumRow : OpenClaim := { program := "ytfbmjimhjlmhkaadoor", sum := "4606e7ae293ce775d04fa784091e62e11efc74f8a8f0eb19e9fa09bbcf1fd096", func := "loop.example/g00793/laws.FnExactBookSum", spec := "fnExactBookSum", named := ["loop.example/g00793/impl.currencies"], apart := false, laid := [("loop.example/g00793/impl.currencies", laid_loop_example_g00793_impl_currencies)] }
def FnExactBookSumSaid : Prop := fnExactBookSumRow.holds Tryd.pinned (OpenSpec.ofChange fnExactBookSumSpec)

/-- ITS FALSE NEIGHBOUR: 'it returns false'. Refute it at one input. -/
def fnExactBookSumWrong : ChangeSpec := { name := "fnExactBookSum", vars := ["loop.example/g00793/impl.currencies"], fn := fun _ => fun
  | [d1, d2, g1] => { results := [.lit (.bool false)], args := [d1, d2], vars := [g1] }
  | _ => none }
def FnExactBookSumWrongFalsely : Prop := fnExactBookSumRow.holds Tryd.pinned (OpenSpec.ofChange fnExactBookSumWrong)

/-- 'laws.FnExactTaxTotal': WHATEVER THE INPUT: true; the input reads as it did. -/
def fnExactTaxTotalSpec : ChangeSpec := { name := "fnExactTaxTotal", vars := ["loop.example/g00793/impl.currencies"], fn := fun _ => fun
  | [d, g1] => { results := [.lit (.bool true)], args := [d], vars := [g1] }
  | _ => none }
def fnExactTaxTotalRow : OpenClaim := { program := "ytfbmjimhjlmhkaadoor", sum := "4606e7ae293ce775d04fa784091e62e11efc74f8a8f0eb19e9fa09bbcf1fd096", func := "loop.example/g00793/laws.FnExactTaxTotal", spec := "fnExactTaxTotal", named := ["loop.example/g00793/impl.currencies"], apart := false, laid := [("loop.example/g00793/impl.currencies", laid_loop_example_g00793_impl_currencies)] }
def FnExactTaxTotalSaid : Prop := fnExactTaxTotalRow.holds Tryd.pinned (OpenSpec.ofChange fnExactTaxTotalSpec)

/-- ITS FALSE NEIGHBOUR: 'it returns false'. Refute it at one input. -/
def fnExactTaxTotalWrong : ChangeSpec := { name := "fnExactTaxTotal", vars := ["loop.example/g00793/impl.currencies"], fn := fun _ => fun
  | [d, g1] => { results := [.lit (.bool false)], args := [d], vars := [g1] }
  | _ => none }
def FnExactTaxTotalWrongFalsely : Prop := fnExactTaxTotalRow.holds Tryd.pinned (OpenSpec.ofChange fnExactTaxTotalWrong)

/- THE SECOND FORM. 'bulk': how many values and letters a reading holds, each counted each time it is reached (what is shared counts as often as it is met; a slice's spare places count too). A statement '..UptoSaid' is the law's where the arguments, and the package variables that the reading takes, are together of bulk at most 1048576: NARROWER than '..Said'. Prove '..Said' where nothing that the law and all that it calls make is longer than what came in: it says more and counts as full. Else prove '..UptoSaid'. A law counts once. -/
mutual
def uptoBulk {H : Type} : DataW H → Nat
  | .lit (.string bytes) => bytes.length + 1
  | .lit _ => 1
  | .nil => 1
  | .ptr d => uptoBulk d + 1
  | .slice elems spare => uptoBulkAll elems + uptoBulkAll spare + 1
  | .agg parts => uptoBulkAll parts + 1
  | .iface _ d => uptoBulk d + 1
  | .map entries => uptoBulkEntries entries + 1
  | .held _ => 1
def uptoBulkAll {H : Type} : List (DataW H) → Nat
  | [] => 0
  | d :: r => uptoBulk d + uptoBulkAll r
def uptoBulkEntries {H : Type} : List (Lit × DataW H) → Nat
  | [] => 0
  | x :: r => uptoBulkEntry x + uptoBulkEntries r
def uptoBulkEntry {H : Type} : Lit × DataW H → Nat
  | (.string bytes, d) => bytes.length + uptoBulk d + 1
  | (_, d) => uptoBulk d + 1
 end
def uptoSmall : (H : Type) → List (DataW H) → Bool := fun _ ds => decide (uptoBulkAll ds ≤ 1048576)
def OpenSpec.upto (s : _root_.Go.ChangeSpec) : _root_.Go.OpenSpec := { _root_.Go.OpenSpec.ofChange s with cond := some uptoSmall }

/-- 'laws.FnExactLegsOk', WHERE WHAT IT READS IS OF BULK AT MOST 1048576: true; the input reads as it did. -/
def fnExactLegsOkUptoRow : OpenClaim := { program := "ytfbmjimhjlmhkaadoor", sum := "4606e7ae293ce775d04fa784091e62e11efc74f8a8f0eb19e9fa09bbcf1fd096", func := "loop.example/g00793/laws.FnExactLegsOk", spec := "fnExactLegsOk", named := ["loop.example/g00793/impl.currencies"], apart := false, laid := [("loop.example/g00793/impl.currencies", laid_loop_example_g00793_impl_currencies)], narrowed := true }
def FnExactLegsOkUptoSaid : Prop := fnExactLegsOkUptoRow.holds Tryd.pinned (OpenSpec.upto fnExactLegsOkSpec)

/-- 'laws.FnExactBookOk', WHERE WHAT IT READS IS OF BULK AT MOST 1048576: true; the input reads as it did. -/
def fnExactBookOkUptoRow : OpenClaim := { program := "ytfbmjimhjlmhkaadoor", sum := "4606e7ae293ce775d04fa784091e62e11efc74f8a8f0eb19e9fa09bbcf1fd096", func := "loop.example/g00793/laws.FnExactBookOk", spec := "fnExactBookOk", named := ["loop.example/g00793/impl.currencies"], apart := false, laid := [("loop.example/g00793/impl.currencies", laid_loop_example_g00793_impl_currencies)], narrowed := true }
def FnExactBookOkUptoSaid : Prop := fnExactBookOkUptoRow.holds Tryd.pinned (OpenSpec.upto fnExactBookOkSpec)

/-- 'laws.FnExactDebtsOk', WHERE WHAT IT READS IS OF BULK AT MOST 1048576: true; the input reads as it did. -/
def fnExactDebtsOkUptoRow : OpenClaim := { program := "ytfbmjimhjlmhkaadoor", sum := "4606e7ae293ce775d04fa784091e62e11efc74f8a8f0eb19e9fa09bbcf1fd096", func := "loop.example/g00793/laws.FnExactDebtsOk", spec := "fnExactDebtsOk", named := ["loop.example/g00793/impl.currencies"], apart := false, laid := [("loop.example/g00793/impl.currencies", laid_loop_example_g00793_impl_currencies)], narrowed := true }
def FnExactDebtsOkUptoSaid : Prop := fnExactDebtsOkUptoRow.holds Tryd.pinned (OpenSpec.upto fnExactDebtsOkSpec)

/-- 'laws.FnExactUndo', WHERE WHAT IT READS IS OF BULK AT MOST 1048576: true; the input reads as it did. -/
def fnExactUndoUptoRow : OpenClaim := { program := "ytfbmjimhjlmhkaadoor", sum := "4606e7ae293ce775d04fa784091e62e11efc74f8a8f0eb19e9fa09bbcf1fd096", func := "loop.example/g00793/laws.FnExactUndo", spec := "fnExactUndo", named := ["loop.example/g00793/impl.currencies"], apart := false, laid := [("loop.example/g00793/impl.currencies", laid_loop_example_g00793_impl_currencies)], narrowed := true }
def FnExactUndoUptoSaid : Prop := fnExactUndoUptoRow.holds Tryd.pinned (OpenSpec.upto fnExactUndoSpec)

/-- 'laws.FnExactPlanSums', WHERE WHAT IT READS IS OF BULK AT MOST 1048576: true; the input reads as it did. -/
def fnExactPlanSumsUptoRow : OpenClaim := { program := "ytfbmjimhjlmhkaadoor", sum := "4606e7ae293ce775d04fa784091e62e11efc74f8a8f0eb19e9fa09bbcf1fd096", func := "loop.example/g00793/laws.FnExactPlanSums", spec := "fnExactPlanSums", named := ["loop.example/g00793/impl.currencies"], apart := false, laid := [("loop.example/g00793/impl.currencies", laid_loop_example_g00793_impl_currencies)], narrowed := true }
def FnExactPlanSumsUptoSaid : Prop := fnExactPlanSumsUptoRow.holds Tryd.pinned (OpenSpec.upto fnExactPlanSumsSpec)

/-- 'laws.FnExactBookSum', WHERE WHAT IT READS IS OF BULK AT MOST 1048576: true; the input reads as it did. -/
def fnExactBookSumUptoRow : OpenClaim := { program := "ytfbmjimhjlmhkaadoor", sum := "4606e7ae293ce775d04fa784091e62e11efc74f8a8f0eb19e9fa09bbcf1fd096", func := "loop.example/g00793/laws.FnExactBookSum", spec := "fnExactBookSum", named := ["loop.example/g00793/impl.currencies"], apart := false, laid := [("loop.example/g00793/impl.currencies", laid_loop_example_g00793_impl_currencies)], narrowed := true }
def FnExactBookSumUptoSaid : Prop := fnExactBookSumUptoRow.holds Tryd.pinned (OpenSpec.upto fnExactBookSumSpec)

/-- 'laws.FnExactTaxTotal', WHERE WHAT IT READS IS OF BULK AT MOST 1048576: true; the input reads as it did. -/
def fnExactTaxTotalUptoRow : OpenClaim := { program := "ytfbmjimhjlmhkaadoor", sum := "4606e7ae293ce775d04fa784091e62e11efc74f8a8f0eb19e9fa09bbcf1fd096", func := "loop.example/g00793/laws.FnExactTaxTotal", spec := "fnExactTaxTotal", named := ["loop.example/g00793/impl.currencies"], apart := false, laid := [("loop.example/g00793/impl.currencies", laid_loop_example_g00793_impl_currencies)], narrowed := true }
def FnExactTaxTotalUptoSaid : Prop := fnExactTaxTotalUptoRow.holds Tryd.pinned (OpenSpec.upto fnExactTaxTotalSpec)

end Rows
end Go.Proofs.YtfbmjimhjlmhkaaDoor
