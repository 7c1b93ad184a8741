/-
  Contracts: natural numbers from machine numbers.
-/
import Derived.Test.YtfbmjimhjlmhkaaDoorCSpecInt
namespace Go.Proofs.YtfbmjimhjlmhkaaDoor
open Go Go.Proofs.YtfbmjimhjlmhkaaDoor.Sx
set_option linter.unusedVariables false
set_option linter.unusedSimpArgs false

theorem digs_split {o : List Int} {N n : Nat} (h : digs N = o ++ digs n) (hn : 0 < n) : digs N = (o ++ [((n % 1000000000 : Nat) : Int)]) ++ digs (n / 1000000000) := by
  rw [h, digs_pos (by omega)]; simp

/-- few enough rounds -/
def room (on : Nat) (n : Int) : Prop := (on = 0 ∧ n < 1000000000000000000000000000) ∨ (on = 1 ∧ n < 1000000000000000000) ∨ (on = 2 ∧ n < 1000000000) ∨ (on = 3 ∧ n < 1)
theorem room_next {on : Nat} {n : Int} (h : room on n) (h0 : 0 < n) : room (on + 1) (n / 1000000000) ∧ on ≤ 2 := by
  unfold room at h ⊢
  omega

theorem digs_len3 {n : Nat} (h : n < 1000000000000000000000000000) : (digs n).length ≤ 3 := by
  by_cases h1 : n = 0
  · subst h1; simp [digs_zero]
  · rw [digs_pos h1]
    by_cases h2 : n / 1000000000 = 0
    · rw [h2, digs_zero]; simp
    · rw [digs_pos h2]
      by_cases h3 : n / 1000000000 / 1000000000 = 0
      · rw [h3, digs_zero]; simp
      · rw [digs_pos h3]
        have h4 : n / 1000000000 / 1000000000 / 1000000000 = 0 := by omega
        rw [h4, digs_zero]; simp
theorem icap_small {z : Int} (h : z.natAbs < 1000000000000000000000000000) : icap z = enc z := by
  have hl := digs_len3 h
  unfold icap capL
  rw [if_pos (by omega)]
  simp only [mkS, enc, isEmpty_digs]
  by_cases h0 : z < 0
  · have : z.natAbs ≠ 0 := by omega
    simp [h0]; omega
  · simp [h0]

end Go.Proofs.YtfbmjimhjlmhkaaDoor
