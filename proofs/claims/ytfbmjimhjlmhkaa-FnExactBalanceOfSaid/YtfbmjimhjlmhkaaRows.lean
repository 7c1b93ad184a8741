/-
  No cell of these rows narrows 'for every input' (looked for: loops, veiled, ifaces, maps, wideKeys, modest, calm, conditions, laid).
  DERIVED. THE GIVEN ROWS OF THIS SEAT. 5 by the template 'for every input the law returns true; each argument reads behind the call as it read before'; 0 by the template 'total and deterministic' (their statements: YtfbmjimhjlmhkaaTotals.lean).
  GIVEN WITH THE SEED: the statements are not yours to turn. If you find one false, say at which input.
  Laid BY PROGRAM, IN A SANDBOX (cutbox-rows.mjs): the forced cells as the released guide's own fill.sh prints them over the translation 8e429fb557d192d4… (all of the seat's roots in one cut). By AI agents, Wed Nov 11 2026. No macro, syntax, notation, axiom, sorry.
-/
import Derived.Test.YtfbmjimhjlmhkaaChecked
import GoSem.Claim
import GoSem.ClaimJoined
import GoSem.ClaimMapViews
import Derived.JoinedTies
import Derived.KernelRfl
namespace Go.Proofs.Ytfbmjimhjlmhkaa
/- THE CELL 'sum', in the pinned program and in every row, IS THE sha256 OF THE DUMP (.gsa) THAT YtfbmjimhjlmhkaaProg.lean LOADS. Nothing in Lean hashes anything: it is a label: what it is worth is what the hold of that sum in a sandbox is worth. -/
noncomputable def Try.pinned : Pinned := { name := "ytfbmjimhjlmhkaa", sum := "8e429fb557d192d4d1bebb2f21062541ac0b92e8f5a6f2f71039dda1fd1ac5f1", checked := Try.checked }
namespace Rows
def none {H : Type} : Left H := { results := [], args := [] }

/-- 'laws.FnExactRestOf': WHATEVER THE INPUT: true; the input reads as it did. -/
def fnExactRestOfSpec : ChangeSpec := { name := "fnExactRestOf", fn := fun _ => fun
  | [d1, d2] => { results := [.lit (.bool true)], args := [d1, d2] }
  | _ => none }
def fnExactRestOfRow : OpenClaim := { program := "ytfbmjimhjlmhkaa", sum := "8e429fb557d192d4d1bebb2f21062541ac0b92e8f5a6f2f71039dda1fd1ac5f1", func := "loop.example/g00793/laws.FnExactRestOf", spec := "fnExactRestOf", apart := false }
def FnExactRestOfSaid : Prop := fnExactRestOfRow.holds Try.pinned (OpenSpec.ofChange fnExactRestOfSpec)

/-- ITS FALSE NEIGHBOUR: 'it returns false'. Refute it at one input. -/
def fnExactRestOfWrong : ChangeSpec := { name := "fnExactRestOf", fn := fun _ => fun
  | [d1, d2] => { results := [.lit (.bool false)], args := [d1, d2] }
  | _ => none }
def FnExactRestOfWrongFalsely : Prop := fnExactRestOfRow.holds Try.pinned (OpenSpec.ofChange fnExactRestOfWrong)

/-- 'laws.FnExactBalanceOf': WHATEVER THE INPUT: true; the input reads as it did. -/
def fnExactBalanceOfSpec : ChangeSpec := { name := "fnExactBalanceOf", fn := fun _ => fun
  | [d1, d2] => { results := [.lit (.bool true)], args := [d1, d2] }
  | _ => none }
def fnExactBalanceOfRow : OpenClaim := { program := "ytfbmjimhjlmhkaa", sum := "8e429fb557d192d4d1bebb2f21062541ac0b92e8f5a6f2f71039dda1fd1ac5f1", func := "loop.example/g00793/laws.FnExactBalanceOf", spec := "fnExactBalanceOf", unfollowed := true, recurses := true, apart := false }
def FnExactBalanceOfSaid : Prop := fnExactBalanceOfRow.holds Try.pinned (OpenSpec.ofChange fnExactBalanceOfSpec)

/-- ITS FALSE NEIGHBOUR: 'it returns false'. Refute it at one input. -/
def fnExactBalanceOfWrong : ChangeSpec := { name := "fnExactBalanceOf", fn := fun _ => fun
  | [d1, d2] => { results := [.lit (.bool false)], args := [d1, d2] }
  | _ => none }
def FnExactBalanceOfWrongFalsely : Prop := fnExactBalanceOfRow.holds Try.pinned (OpenSpec.ofChange fnExactBalanceOfWrong)

/-- 'laws.FnExactTaxRateOk': WHATEVER THE INPUT: true; the input reads as it did. -/
def fnExactTaxRateOkSpec : ChangeSpec := { name := "fnExactTaxRateOk", fn := fun _ => fun
  | [d] => { results := [.lit (.bool true)], args := [d] }
  | _ => none }
def fnExactTaxRateOkRow : OpenClaim := { program := "ytfbmjimhjlmhkaa", sum := "8e429fb557d192d4d1bebb2f21062541ac0b92e8f5a6f2f71039dda1fd1ac5f1", func := "loop.example/g00793/laws.FnExactTaxRateOk", spec := "fnExactTaxRateOk", unfollowed := true, recurses := true, apart := false }
def FnExactTaxRateOkSaid : Prop := fnExactTaxRateOkRow.holds Try.pinned (OpenSpec.ofChange fnExactTaxRateOkSpec)

/-- ITS FALSE NEIGHBOUR: 'it returns false'. Refute it at one input. -/
def fnExactTaxRateOkWrong : ChangeSpec := { name := "fnExactTaxRateOk", fn := fun _ => fun
  | [d] => { results := [.lit (.bool false)], args := [d] }
  | _ => none }
def FnExactTaxRateOkWrongFalsely : Prop := fnExactTaxRateOkRow.holds Try.pinned (OpenSpec.ofChange fnExactTaxRateOkWrong)

/-- 'laws.FnExactStepsOk': WHATEVER THE INPUT: true; the input reads as it did. -/
def fnExactStepsOkSpec : ChangeSpec := { name := "fnExactStepsOk", fn := fun _ => fun
  | [d] => { results := [.lit (.bool true)], args := [d] }
  | _ => none }
def fnExactStepsOkRow : OpenClaim := { program := "ytfbmjimhjlmhkaa", sum := "8e429fb557d192d4d1bebb2f21062541ac0b92e8f5a6f2f71039dda1fd1ac5f1", func := "loop.example/g00793/laws.FnExactStepsOk", spec := "fnExactStepsOk", unfollowed := true, recurses := true, apart := false }
def FnExactStepsOkSaid : Prop := fnExactStepsOkRow.holds Try.pinned (OpenSpec.ofChange fnExactStepsOkSpec)

/-- ITS FALSE NEIGHBOUR: 'it returns false'. Refute it at one input. -/
def fnExactStepsOkWrong : ChangeSpec := { name := "fnExactStepsOk", fn := fun _ => fun
  | [d] => { results := [.lit (.bool false)], args := [d] }
  | _ => none }
def FnExactStepsOkWrongFalsely : Prop := fnExactStepsOkRow.holds Try.pinned (OpenSpec.ofChange fnExactStepsOkWrong)

/-- 'laws.FnExactStepAt': WHATEVER THE INPUT: true; the input reads as it did. -/
def fnExactStepAtSpec : ChangeSpec := { name := "fnExactStepAt", fn := fun _ => fun
  | [d1, d2] => { results := [.lit (.bool true)], args := [d1, d2] }
  | _ => none }
def fnExactStepAtRow : OpenClaim := { program := "ytfbmjimhjlmhkaa", sum := "8e429fb557d192d4d1bebb2f21062541ac0b92e8f5a6f2f71039dda1fd1ac5f1", func := "loop.example/g00793/laws.FnExactStepAt", spec := "fnExactStepAt", unfollowed := true, recurses := true, apart := false }
def FnExactStepAtSaid : Prop := fnExactStepAtRow.holds Try.pinned (OpenSpec.ofChange fnExactStepAtSpec)

/-- ITS FALSE NEIGHBOUR: 'it returns false'. Refute it at one input. -/
def fnExactStepAtWrong : ChangeSpec := { name := "fnExactStepAt", fn := fun _ => fun
  | [d1, d2] => { results := [.lit (.bool false)], args := [d1, d2] }
  | _ => none }
def FnExactStepAtWrongFalsely : Prop := fnExactStepAtRow.holds Try.pinned (OpenSpec.ofChange fnExactStepAtWrong)

/- THE SECOND FORM. 'bulk': how many values and letters a reading holds, each counted each time it is reached (what is shared counts as often as it is met; a slice's spare places count too). A statement '..UptoSaid' is the law's where the arguments, and the package variables that the reading takes, are together of bulk at most 1048576: NARROWER than '..Said'. Prove '..Said' where nothing that the law and all that it calls make is longer than what came in: it says more and counts as full. Else prove '..UptoSaid'. A law counts once. -/
mutual
def uptoBulk {H : Type} : DataW H → Nat
  | .lit (.string bytes) => bytes.length + 1
  | .lit _ => 1
  | .nil => 1
  | .ptr d => uptoBulk d + 1
  | .slice elems spare => uptoBulkAll elems + uptoBulkAll spare + 1
  | .agg parts => uptoBulkAll parts + 1
  | .iface _ d => uptoBulk d + 1
  | .map entries => uptoBulkEntries entries + 1
  | .held _ => 1
def uptoBulkAll {H : Type} : List (DataW H) → Nat
  | [] => 0
  | d :: r => uptoBulk d + uptoBulkAll r
def uptoBulkEntries {H : Type} : List (Lit × DataW H) → Nat
  | [] => 0
  | x :: r => uptoBulkEntry x + uptoBulkEntries r
def uptoBulkEntry {H : Type} : Lit × DataW H → Nat
  | (.string bytes, d) => bytes.length + uptoBulk d + 1
  | (_, d) => uptoBulk d + 1
 end
def uptoSmall : (H : Type) → List (DataW H) → Bool := fun _ ds => decide (uptoBulkAll ds ≤ 1048576)
def OpenSpec.upto (s : _root_.Go.ChangeSpec) : _root_.Go.OpenSpec := { _root_.Go.OpenSpec.ofChange s with cond := some uptoSmall }

/-- 'laws.FnExactRestOf', WHERE WHAT IT READS IS OF BULK AT MOST 1048576: true; the input reads as it did. -/
def fnExactRestOfUptoRow : OpenClaim := { program := "ytfbmjimhjlmhkaa", sum := "8e429fb557d192d4d1bebb2f21062541ac0b92e8f5a6f2f71039dda1fd1ac5f1", func := "loop.example/g00793/laws.FnExactRestOf", spec := "fnExactRestOf", apart := false, narrowed := true }
def FnExactRestOfUptoSaid : Prop := fnExactRestOfUptoRow.holds Try.pinned (OpenSpec.upto fnExactRestOfSpec)

/-- 'laws.FnExactBalanceOf', WHERE WHAT IT READS IS OF BULK AT MOST 1048576: true; the input reads as it did. -/
def fnExactBalanceOfUptoRow : OpenClaim := { program := "ytfbmjimhjlmhkaa", sum := "8e429fb557d192d4d1bebb2f21062541ac0b92e8f5a6f2f71039dda1fd1ac5f1", func := "loop.example/g00793/laws.FnExactBalanceOf", spec := "fnExactBalanceOf", unfollowed := true, recurses := true, apart := false, narrowed := true }
def FnExactBalanceOfUptoSaid : Prop := fnExactBalanceOfUptoRow.holds Try.pinned (OpenSpec.upto fnExactBalanceOfSpec)

/-- 'laws.FnExactTaxRateOk', WHERE WHAT IT READS IS OF BULK AT MOST 1048576: true; the input reads as it did. -/
def fnExactTaxRateOkUptoRow : OpenClaim := { program := "ytfbmjimhjlmhkaa", sum := "8e429fb557d192d4d1bebb2f21062541ac0b92e8f5a6f2f71039dda1fd1ac5f1", func := "loop.example/g00793/laws.FnExactTaxRateOk", spec := "fnExactTaxRateOk", unfollowed := true, recurses := true, apart := false, narrowed := true }
def FnExactTaxRateOkUptoSaid : Prop := fnExactTaxRateOkUptoRow.holds Try.pinned (OpenSpec.upto fnExactTaxRateOkSpec)

/-- 'laws.FnExactStepsOk', WHERE WHAT IT READS IS OF BULK AT MOST 1048576: true; the input reads as it did. -/
def fnExactStepsOkUptoRow : OpenClaim := { program := "ytfbmjimhjlmhkaa", sum := "8e429fb557d192d4d1bebb2f21062541ac0b92e8f5a6f2f71039dda1fd1ac5f1", func := "loop.example/g00793/laws.FnExactStepsOk", spec := "fnExactStepsOk", unfollowed := true, recurses := true, apart := false, narrowed := true }
def FnExactStepsOkUptoSaid : Prop := fnExactStepsOkUptoRow.holds Try.pinned (OpenSpec.upto fnExactStepsOkSpec)

/-- 'laws.FnExactStepAt', WHERE WHAT IT READS IS OF BULK AT MOST 1048576: true; the input reads as it did. -/
def fnExactStepAtUptoRow : OpenClaim := { program := "ytfbmjimhjlmhkaa", sum := "8e429fb557d192d4d1bebb2f21062541ac0b92e8f5a6f2f71039dda1fd1ac5f1", func := "loop.example/g00793/laws.FnExactStepAt", spec := "fnExactStepAt", unfollowed := true, recurses := true, apart := false, narrowed := true }
def FnExactStepAtUptoSaid : Prop := fnExactStepAtUptoRow.holds Try.pinned (OpenSpec.upto fnExactStepAtSpec)

end Rows
end Go.Proofs.Ytfbmjimhjlmhkaa
