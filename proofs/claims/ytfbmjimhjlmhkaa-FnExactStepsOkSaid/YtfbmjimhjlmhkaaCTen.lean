/-
  Contracts: powers of ten.
-/
import Derived.Test.YtfbmjimhjlmhkaaCNatOf
import Derived.Test.YtfbmjimhjlmhkaaCMul
namespace Go.Proofs.Ytfbmjimhjlmhkaa
open Go Go.Proofs.Ytfbmjimhjlmhkaa.Sx
set_option linter.unusedVariables false
set_option linter.unusedSimpArgs false

/-- a power of ten: limbs of 0, then the last one -/
def tenL (k : Nat) : List Int := List.replicate (k / 9) 0 ++ [10 ^ (k % 9)]
theorem val_zeros : ∀ s : Nat, val (List.replicate s 0) = 0
  | 0 => rfl
  | s + 1 => by simp [List.replicate_succ, val, val_zeros s]
theorem ten_small {j : Nat} (h : j < 9) : (1 : Int) ≤ 10 ^ j ∧ (10 : Int) ^ j ≤ 100000000 := by
  have : j = 0 ∨ j = 1 ∨ j = 2 ∨ j = 3 ∨ j = 4 ∨ j = 5 ∨ j = 6 ∨ j = 7 ∨ j = 8 := by omega
  rcases this with h | h | h | h | h | h | h | h | h <;> subst h <;> decide
theorem tenL_canon (k : Nat) : Canon (tenL k) := by
  have h := ten_small (j := k % 9) (by omega)
  refine ⟨Limbs.append.2 ⟨fun x hx => by simp at hx; omega, Limbs.cons.2 ⟨by omega, Limbs.nil⟩⟩, ?_⟩
  simp only [tenL, List.getLast?_append, List.getLast?_singleton, Option.some_or, ne_eq, Option.some.injEq]
  omega
theorem val_tenL (k : Nat) : val (tenL k) = 10 ^ k := by
  unfold tenL
  rw [val_snoc, val_zeros, List.length_replicate, Int.zero_add]
  have : (1000000000 : Int) = 10 ^ 9 := by decide
  rw [this, ← Int.pow_mul, ← Int.pow_add]
  congr 1
  omega
theorem tenL_digs (k : Nat) : tenL k = digs (10 ^ k) := by
  have := digs_val (tenL_canon k)
  rw [val_tenL] at this
  rw [← this]
  congr 1

theorem impl_natTen_c {w : World} {k : Int} (h0 : 0 ≤ k) (h1 : k ≤ 1000) :
    Ret P n_impl_natTen [.int .i64 k] w fun v w' => ∃ p' n' c', v = .slice p' n' c' ∧ Own w' w.heap.size T_int 1 p' n' c' ((digs (10 ^ k.toNat)).map (Value.int .i64)) ∧ Ext w w' := by
  refine impl_natTen_ret ?_
  unfold impl_natTen
  have ed : Int.tdiv k 9 = k / 9 := Int.tdiv_eq_ediv_of_nonneg h0
  have em : Int.tmod k 9 = k % 9 := Int.tmod_eq_emod_of_nonneg h0
  rw [ed, em]
  refine ⟨by decide, exW ⟨by omega, by omega⟩ ⟨by decide, exW ⟨by omega, by omega⟩ (exW ⟨by omega, by omega⟩ ⟨⟨by omega, by omega, by omega⟩, fun r w1 hn1 => ?_⟩)⟩⟩
  have hre := hn1.r_eq
  refine ⟨by decide, _, rfl, fun top i wr => ∃ j : Nat, i = j ∧ (j : Int) ≤ k % 9 ∧ wr = w1 ∧ top = 10 ^ j, fun _ i _ => 9 - i.toNat, ⟨0, rfl, by omega, rfl, rfl⟩, ?_⟩
  intro junk wr top i ⟨j, hi, hj, hw, ht⟩
  subst hi; subst hw; subst ht
  have T := ten_small (j := j) (by omega)
  refine ifD (fun hlt => ?_) (fun hge => ?_)
  · refine exW ⟨by omega, by omega⟩ (exW ⟨by omega, by omega⟩ ⟨⟨j + 1, by omega, by omega, rfl, by rw [Int.pow_succ]⟩, ?_⟩)
    show 9 - ((j : Int) + 1).toNat < 9 - (j : Int).toNat
    omega
  · intro r1 w2 hn2
    have hblk : Blk wr r T_int (List.replicate ((k / 9 + 1).toNat) (Value.int .i64 0)) := by
      have := hn1.blk
      rwa [zeroRow_int, Nat.mul_one] at this
    have hown : Own wr w.heap.size T_int 1 (some ⟨r, 0, none⟩) (k / 9).toNat (k / 9 + 1).toNat ((List.replicate (k / 9).toNat (0 : Int)).map (Value.int .i64)) := by
      have hfull : Own wr w.heap.size T_int 1 (some ⟨r, 0, none⟩) (k / 9 + 1).toNat (k / 9 + 1).toNat ((List.replicate (k / 9 + 1).toNat (0 : Int)).map (Value.int .i64)) := by
        rw [List.map_replicate]
        exact Own.of_blk hblk (by omega) (by simp) (by simp only [maxLen]; omega)
      have := hfull.sub (m := (k / 9).toNat) (by omega)
      rwa [List.take_replicate, show min (k / 9).toNat (k / 9 + 1).toNat = (k / 9).toNat by omega] at this
    obtain ⟨p', c', w3, g1, g2, g3⟩ := Own.push hown hn1.ext.le hn2 (by omega)
    refine ⟨_, _, _, _, g1, _, _, _, rfl, ?_, g3 w hn1.ext (Nat.le_refl _)⟩
    rw [← tenL_digs]
    have ej : j = k.toNat % 9 := by omega
    have ek : (k / 9).toNat = k.toNat / 9 := by omega
    rw [ej, ek] at g2
    rw [ek]
    exact g2

theorem spec_NatTen_c {w : World} {k : Int} (h0 : 0 ≤ k) (h1 : k ≤ 449) :
    Ret P n_spec_NatTen [.int .i64 k] w fun v w' => ∃ p' n' c', v = .slice p' n' c' ∧ Own w' w.heap.size T_int 1 p' n' c' ((digs (10 ^ k.toNat)).map (Value.int .i64)) ∧ Ext w w' := by
  refine spec_NatTen_ret ?_
  unfold spec_NatTen
  have ed : Int.tdiv k 9 = k / 9 := Int.tdiv_eq_ediv_of_nonneg h0
  have em : Int.tmod k 9 = k % 9 := Int.tmod_eq_emod_of_nonneg h0
  rw [ed, em]
  refine Ret.at (spec_l01In_c k 0 449 w) ?_
  rintro v w0 ⟨hv, hw⟩
  subst hv; subst hw
  refine ⟨_, rfl, ifN (fun h => absurd (of_decide_eq_false h) (by omega)) (fun _ => ⟨by decide, exW ⟨by omega, by omega⟩ ⟨⟨by omega, by omega, by omega⟩, fun r w1 hn1 => ?_⟩⟩)⟩
  have hre := hn1.r_eq
  refine ⟨fun top i wr => ∃ j : Nat, i = j ∧ (j : Int) ≤ k % 9 ∧ wr = w1 ∧ top = 10 ^ j, fun _ i _ => 9 - i.toNat, ⟨0, rfl, by omega, rfl, rfl⟩, ?_⟩
  intro junk wr top i ⟨j, hi, hj, hw, ht⟩
  subst hi; subst hw; subst ht
  have T := ten_small (j := j) (by omega)
  refine ⟨by decide, _, rfl, ifD (fun hlt => ?_) (fun hge => ?_)⟩
  · refine exW ⟨by omega, by omega⟩ (exW ⟨by omega, by omega⟩ ⟨⟨j + 1, by omega, by omega, rfl, by rw [Int.pow_succ]⟩, ?_⟩)
    show 9 - ((j : Int) + 1).toNat < 9 - (j : Int).toNat
    omega
  · intro r1 w2 hn2
    have hblk : Blk wr r T_int (List.replicate ((k / 9).toNat) (Value.int .i64 0)) := by
      have := hn1.blk
      rwa [zeroRow_int, Nat.mul_one] at this
    have hown : Own wr w0.heap.size T_int 1 (some ⟨r, 0, none⟩) (k / 9).toNat (k / 9).toNat ((List.replicate (k / 9).toNat (0 : Int)).map (Value.int .i64)) := by
      rw [List.map_replicate]
      exact Own.of_blk hblk (by omega) (by simp) (by simp only [maxLen]; omega)
    obtain ⟨p', c', w3, g1, g2, g3⟩ := Own.push hown hn1.ext.le hn2 (by omega)
    refine ⟨_, _, _, _, g1, _, _, _, rfl, ?_, g3 w0 hn1.ext (Nat.le_refl _)⟩
    rw [← tenL_digs]
    have ej : j = k.toNat % 9 := by omega
    have ek : (k / 9).toNat = k.toNat / 9 := by omega
    rw [ej, ek] at g2
    rw [ek]
    exact g2

end Go.Proofs.Ytfbmjimhjlmhkaa
