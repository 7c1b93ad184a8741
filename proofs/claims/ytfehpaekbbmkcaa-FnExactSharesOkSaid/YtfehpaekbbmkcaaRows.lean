/-
  No cell of these rows narrows 'for every input' (looked for: loops, veiled, ifaces, maps, wideKeys, modest, calm, conditions, laid).
  DERIVED. THE GIVEN ROWS OF THIS SEAT. 3 by the template 'for every input the law returns true; each argument reads behind the call as it read before'; 0 by the template 'total and deterministic' (their statements: YtfehpaekbbmkcaaTotals.lean).
  GIVEN WITH THE SEED: the statements are not yours to turn. If you find one false, say at which input.
  Laid BY PROGRAM, IN A SANDBOX (cutbox-rows.mjs): the forced cells as the released guide's own fill.sh prints them over the translation 8f85ffd11fb4f1d6… (all of the seat's roots in one cut). By AI agents, Wed Nov 11 2026. No macro, syntax, notation, axiom, sorry.
-/
import Derived.Test.YtfehpaekbbmkcaaChecked
import GoSem.Claim
import GoSem.ClaimJoined
import GoSem.ClaimMapViews
import Derived.JoinedTies
import Derived.KernelRfl
namespace Go.Proofs.Ytfehpaekbbmkcaa
/- THE CELL 'sum', in the pinned program and in every row, IS THE sha256 OF THE DUMP (.gsa) THAT YtfehpaekbbmkcaaProg.lean LOADS. Nothing in Lean hashes anything: it is a label: what it is worth is what the hold of that sum in a sandbox is worth. -/
noncomputable def Try.pinned : Pinned := { name := "ytfehpaekbbmkcaa", sum := "8f85ffd11fb4f1d6a60ff14ae6733bc674a1c3a8ff0fdab45b58d7b665f2b1eb", checked := Try.checked }
namespace Rows
def none {H : Type} : Left H := { results := [], args := [] }

/-- 'laws.FnExactBookCurs': WHATEVER THE INPUT: true; the input reads as it did. -/
def fnExactBookCursSpec : ChangeSpec := { name := "fnExactBookCurs", fn := fun _ => fun
  | [d] => { results := [.lit (.bool true)], args := [d] }
  | _ => none }
def fnExactBookCursRow : OpenClaim := { program := "ytfehpaekbbmkcaa", sum := "8f85ffd11fb4f1d6a60ff14ae6733bc674a1c3a8ff0fdab45b58d7b665f2b1eb", func := "loop.example/g00793/laws.FnExactBookCurs", spec := "fnExactBookCurs", recurses := true, apart := false }
def FnExactBookCursSaid : Prop := fnExactBookCursRow.holds Try.pinned (OpenSpec.ofChange fnExactBookCursSpec)

/-- ITS FALSE NEIGHBOUR: 'it returns false'. Refute it at one input. -/
def fnExactBookCursWrong : ChangeSpec := { name := "fnExactBookCurs", fn := fun _ => fun
  | [d] => { results := [.lit (.bool false)], args := [d] }
  | _ => none }
def FnExactBookCursWrongFalsely : Prop := fnExactBookCursRow.holds Try.pinned (OpenSpec.ofChange fnExactBookCursWrong)

/-- 'laws.FnExactShares': WHATEVER THE INPUT: true; the input reads as it did. -/
def fnExactSharesSpec : ChangeSpec := { name := "fnExactShares", fn := fun _ => fun
  | [d1, d2] => { results := [.lit (.bool true)], args := [d1, d2] }
  | _ => none }
def fnExactSharesRow : OpenClaim := { program := "ytfehpaekbbmkcaa", sum := "8f85ffd11fb4f1d6a60ff14ae6733bc674a1c3a8ff0fdab45b58d7b665f2b1eb", func := "loop.example/g00793/laws.FnExactShares", spec := "fnExactShares", unfollowed := true, recurses := true, apart := false }
def FnExactSharesSaid : Prop := fnExactSharesRow.holds Try.pinned (OpenSpec.ofChange fnExactSharesSpec)

/-- ITS FALSE NEIGHBOUR: 'it returns false'. Refute it at one input. -/
def fnExactSharesWrong : ChangeSpec := { name := "fnExactShares", fn := fun _ => fun
  | [d1, d2] => { results := [.lit (.bool false)], args := [d1, d2] }
  | _ => none }
def FnExactSharesWrongFalsely : Prop := fnExactSharesRow.holds Try.pinned (OpenSpec.ofChange fnExactSharesWrong)

/-- 'laws.FnExactSharesOk': WHATEVER THE INPUT: true; the input reads as it did. -/
def fnExactSharesOkSpec : ChangeSpec := { name := "fnExactSharesOk", fn := fun _ => fun
  | [d1, d2, d3] => { results := [.lit (.bool true)], args := [d1, d2, d3] }
  | _ => none }
def fnExactSharesOkRow : OpenClaim := { program := "ytfehpaekbbmkcaa", sum := "8f85ffd11fb4f1d6a60ff14ae6733bc674a1c3a8ff0fdab45b58d7b665f2b1eb", func := "loop.example/g00793/laws.FnExactSharesOk", spec := "fnExactSharesOk", unfollowed := true, recurses := true, apart := false }
def FnExactSharesOkSaid : Prop := fnExactSharesOkRow.holds Try.pinned (OpenSpec.ofChange fnExactSharesOkSpec)

/-- ITS FALSE NEIGHBOUR: 'it returns false'. Refute it at one input. -/
def fnExactSharesOkWrong : ChangeSpec := { name := "fnExactSharesOk", fn := fun _ => fun
  | [d1, d2, d3] => { results := [.lit (.bool false)], args := [d1, d2, d3] }
  | _ => none }
def FnExactSharesOkWrongFalsely : Prop := fnExactSharesOkRow.holds Try.pinned (OpenSpec.ofChange fnExactSharesOkWrong)

/- THE SECOND FORM. 'bulk': how many values and letters a reading holds, each counted each time it is reached (what is shared counts as often as it is met; a slice's spare places count too). A statement '..UptoSaid' is the law's where the arguments, and the package variables that the reading takes, are together of bulk at most 1048576: NARROWER than '..Said'. Prove '..Said' where nothing that the law and all that it calls make is longer than what came in: it says more and counts as full. Else prove '..UptoSaid'. A law counts once. -/
mutual
def uptoBulk {H : Type} : DataW H → Nat
  | .lit (.string bytes) => bytes.length + 1
  | .lit _ => 1
  | .nil => 1
  | .ptr d => uptoBulk d + 1
  | .slice elems spare => uptoBulkAll elems + uptoBulkAll spare + 1
  | .agg parts => uptoBulkAll parts + 1
  | .iface _ d => uptoBulk d + 1
  | .map entries => uptoBulkEntries entries + 1
  | .held _ => 1
def uptoBulkAll {H : Type} : List (DataW H) → Nat
  | [] => 0
  | d :: r => uptoBulk d + uptoBulkAll r
def uptoBulkEntries {H : Type} : List (Lit × DataW H) → Nat
  | [] => 0
  | x :: r => uptoBulkEntry x + uptoBulkEntries r
def uptoBulkEntry {H : Type} : Lit × DataW H → Nat
  | (.string bytes, d) => bytes.length + uptoBulk d + 1
  | (_, d) => uptoBulk d + 1
 end
def uptoSmall : (H : Type) → List (DataW H) → Bool := fun _ ds => decide (uptoBulkAll ds ≤ 1048576)
def OpenSpec.upto (s : _root_.Go.ChangeSpec) : _root_.Go.OpenSpec := { _root_.Go.OpenSpec.ofChange s with cond := some uptoSmall }

/-- 'laws.FnExactBookCurs', WHERE WHAT IT READS IS OF BULK AT MOST 1048576: true; the input reads as it did. -/
def fnExactBookCursUptoRow : OpenClaim := { program := "ytfehpaekbbmkcaa", sum := "8f85ffd11fb4f1d6a60ff14ae6733bc674a1c3a8ff0fdab45b58d7b665f2b1eb", func := "loop.example/g00793/laws.FnExactBookCurs", spec := "fnExactBookCurs", recurses := true, apart := false, narrowed := true }
def FnExactBookCursUptoSaid : Prop := fnExactBookCursUptoRow.holds Try.pinned (OpenSpec.upto fnExactBookCursSpec)

/-- 'laws.FnExactShares', WHERE WHAT IT READS IS OF BULK AT MOST 1048576: true; the input reads as it did. -/
def fnExactSharesUptoRow : OpenClaim := { program := "ytfehpaekbbmkcaa", sum := "8f85ffd11fb4f1d6a60ff14ae6733bc674a1c3a8ff0fdab45b58d7b665f2b1eb", func := "loop.example/g00793/laws.FnExactShares", spec := "fnExactShares", unfollowed := true, recurses := true, apart := false, narrowed := true }
def FnExactSharesUptoSaid : Prop := fnExactSharesUptoRow.holds Try.pinned (OpenSpec.upto fnExactSharesSpec)

/-- 'laws.FnExactSharesOk', WHERE WHAT IT READS IS OF BULK AT MOST 1048576: true; the input reads as it did. -/
def fnExactSharesOkUptoRow : OpenClaim := { program := "ytfehpaekbbmkcaa", sum := "8f85ffd11fb4f1d6a60ff14ae6733bc674a1c3a8ff0fdab45b58d7b665f2b1eb", func := "loop.example/g00793/laws.FnExactSharesOk", spec := "fnExactSharesOk", unfollowed := true, recurses := true, apart := false, narrowed := true }
def FnExactSharesOkUptoSaid : Prop := fnExactSharesOkUptoRow.holds Try.pinned (OpenSpec.upto fnExactSharesOkSpec)

end Rows
end Go.Proofs.Ytfehpaekbbmkcaa
