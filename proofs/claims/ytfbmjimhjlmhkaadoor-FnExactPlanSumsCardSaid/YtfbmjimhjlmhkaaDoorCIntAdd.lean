/-
  Contracts: the sum of two integers, of a list of integers.
-/
import Derived.Test.YtfbmjimhjlmhkaaDoorCSigned
namespace Go.Proofs.YtfbmjimhjlmhkaaDoor
open Go Go.Proofs.YtfbmjimhjlmhkaaDoor.Sx
set_option linter.unusedVariables false
set_option linter.unusedSimpArgs false

def iadd (d e : List D0) : List D0 := if intOk d && intOk e then icap (ival d + ival e) else enc 0
theorem enc0 : enc 0 = [.bool false, .ints []] := by simp [enc, digs_zero]
theorem icap_code (z : Int) : (icap z).map D0.code = [.bool, .ints] := rfl
theorem capL_canon {n : Nat} : Canon (capL (digs n)) ∧ (capL (digs n)).length ≤ 50 := by
  unfold capL
  split
  · exact ⟨digs_canon n, by assumption⟩
  · exact ⟨⟨Limbs.nil, by simp⟩, by simp⟩
theorem icap_ok (z : Int) : intOk (icap z) = true := by
  have h := capL_canon (n := z.natAbs)
  simp only [icap, mkS, intOk, natOk_spec.2 h, Bool.true_and]
  cases decide (z < 0) <;> cases (capL (digs z.natAbs)) <;> simp
theorem enc0_ok : intOk (enc 0) = true := by rw [enc0]; rfl
theorem iadd_ok (d e : List D0) : intOk (iadd d e) = true := by
  unfold iadd
  split
  · exact icap_ok _
  · exact enc0_ok
theorem iadd_code (d e : List D0) : (iadd d e).map D0.code = [.bool, .ints] := by
  unfold iadd; split <;> rfl
theorem mkS_digs {neg : Bool} {m : Nat} {z : Int} (hm : m = z.natAbs) (hs : m ≠ 0 → neg = decide (z < 0)) : mkS neg (capL (digs m)) = icap z := by
  subst hm
  by_cases h0 : z.natAbs = 0
  · have hz : z = 0 := by omega
    subst hz
    simp [icap, mkS, digs_zero, capL]
  · rw [hs h0]; rfl

end Go.Proofs.YtfbmjimhjlmhkaaDoor
