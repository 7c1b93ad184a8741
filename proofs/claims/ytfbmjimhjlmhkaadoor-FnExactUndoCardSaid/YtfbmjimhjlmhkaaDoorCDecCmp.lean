/-
  Contracts: decimal numbers compared, in the program.
-/
import Derived.Test.YtfbmjimhjlmhkaaDoorCScaled
namespace Go.Proofs.YtfbmjimhjlmhkaaDoor
open Go Go.Proofs.YtfbmjimhjlmhkaaDoor.Sx
set_option linter.unusedVariables false
set_option linter.unusedSimpArgs false

/-- the sign of the difference of two valid decimal numbers, else 0 -/
def dcmp : List D0 → List D0 → Int
  | [.bool a, .ints x, .int s], [.bool b, .ints y, .int t] => if decOk [.bool a, .ints x, .int s] && decOk [.bool b, .ints y, .int t] then
      sgn (ival [.bool a, .ints x] * 10 ^ (max s t - s).toNat - ival [.bool b, .ints y] * 10 ^ (max s t - t).toNat) else 0
  | _, _ => 0

/-- a valid sign and limbs, times a power of ten -/
theorem mkS_mul {b : Bool} {z : List Int} {m : Int} (hok : intOk [.bool b, .ints z] = true) (hm : 0 < m) : mkS b (digs (val z * m).toNat) = enc (ival [.bool b, .ints z] * m) := by
  obtain ⟨_, _, _, he, hc, _⟩ := intOk_enc hok
  simp only [List.cons.injEq, D0.bool.injEq, D0.ints.injEq, and_true] at he
  obtain ⟨rfl, rfl⟩ := he
  have hv := val_nonneg hc.1
  have hp : 0 ≤ val z * m := Int.mul_nonneg hv (Int.le_of_lt hm)
  obtain ⟨N, hN⟩ : ∃ N : Nat, val z * m = N := ⟨(val z * m).toNat, by omega⟩
  cases b with
  | false => simp only [ival, Bool.false_eq_true, if_false, hN, Int.toNat_natCast]; exact mkS_pos N
  | true => simp only [ival, if_true, Int.neg_mul, hN, Int.toNat_natCast]; exact mkS_neg N

theorem digs_len : ∀ (k : Nat) {n : Nat}, n < 1000000000 ^ k → (digs n).length ≤ k
  | 0, n, h => by
    have : n = 0 := by simpa using h
    subst this; simp [digs_zero]
  | k + 1, n, h => by
    by_cases h0 : n = 0
    · subst h0; simp [digs_zero]
    · rw [digs_pos h0, List.length_cons]
      have := digs_len k (n := n / 1000000000) (Nat.div_lt_of_lt_mul (by rw [Nat.mul_comm, ← Nat.pow_succ]; exact h))
      omega
theorem icap_fit {z : Int} (h : (digs z.natAbs).length ≤ 50) : icap z = enc z := by
  unfold icap capL
  rw [if_pos h]
  simp only [mkS, enc, isEmpty_digs]
  by_cases h0 : z < 0
  · have : z.natAbs ≠ 0 := by omega
    simp [h0]; omega
  · simp [h0]
/-- few limbs, times a power of ten: few limbs -/
theorem scaled_len {b : Bool} {z : List Int} {e : Nat} (hok : intOk [.bool b, .ints z] = true) (hl : z.length ≤ 6) (he : e ≤ 30) : (digs (ival [.bool b, .ints z] * 10 ^ e).natAbs).length ≤ 10 := by
  obtain ⟨_, _, _, h1, hc, _⟩ := intOk_enc hok
  simp only [List.cons.injEq, D0.bool.injEq, D0.ints.injEq, and_true] at h1
  obtain ⟨rfl, rfl⟩ := h1
  have hv := val_nonneg hc.1
  have hlt := val_lt hc.1
  have h6 : (1000000000 : Nat) ^ z.length ≤ 1000000000 ^ 6 := Nat.pow_le_pow_right (by decide) hl
  have h6' := Int.ofNat_le.2 h6
  rw [Int.natCast_pow, Int.natCast_pow] at h6'
  have hn : (val z).toNat < 1000000000 ^ 6 := by
    have : val z < (1000000000 : Int) ^ 6 := Int.lt_of_lt_of_le hlt h6'
    omega
  have ha : (ival [.bool b, .ints z]).natAbs = (val z).toNat := by cases b <;> simp only [ival, if_true, Bool.false_eq_true, if_false] <;> omega
  have h10 : ((10 : Int) ^ e).natAbs = 10 ^ e := by simp [Int.natAbs_pow]
  have h30 : (10 : Nat) ^ e ≤ 10 ^ 30 := Nat.pow_le_pow_right (by decide) he
  apply digs_len
  rw [Int.natAbs_mul, ha, h10]
  exact Nat.lt_of_lt_of_le (Nat.mul_lt_mul_of_lt_of_le hn h30 (by decide)) (by decide)
/-- the comparison of valid integers is the sign of the difference -/
theorem icmp_enc {x y : Int} (hx : intOk (enc x) = true) (hy : intOk (enc y) = true) : icmp (enc x) (enc y) = sgn (x - y) := by
  have cv := cmpL_val (digs_canon x.natAbs) (digs_canon y.natAbs)
  have cv2 := cmpL_val (digs_canon y.natAbs) (digs_canon x.natAbs)
  rw [val_digs, val_digs] at cv cv2
  unfold enc at hx hy
  unfold enc
  simp only [icmp, hx, hy, Bool.not_true, Bool.or_self, Bool.false_eq_true, if_false, sgn]
  by_cases h1 : x < 0 <;> by_cases h2 : y < 0 <;> simp only [h1, h2, decide_true, decide_false, Bool.not_true, Bool.not_false, Bool.and_true, Bool.true_and, Bool.and_false, Bool.false_and, Bool.false_eq_true, if_true, if_false]
  · rcases cv2 with ⟨h, h'⟩ | ⟨h, h'⟩ | ⟨h, h'⟩ <;> rw [h] <;> (repeat' split) <;> omega
  · (repeat' split) <;> omega
  · (repeat' split) <;> omega
  · rcases cv with ⟨h, h'⟩ | ⟨h, h'⟩ | ⟨h, h'⟩ <;> rw [h] <;> (repeat' split) <;> omega

