/-
  Contracts: EnName, in the program and in the reference.
-/
import Derived.Test.YtjbbelfocdbeeaaG1
import Derived.Test.YtjbbelfocdbeeaaNm
import Derived.Test.YtjbbelfocdbeeaaSxMem
namespace Go.Proofs.Ytjbbelfocdbeeaa
open Go Go.Proofs.Ytjbbelfocdbeeaa.Sx

theorem spec_l01In_c (n lo hi : Int) (w : World) : Ret P n_spec_l01In [.int .i64 n, .int .i64 lo, .int .i64 hi] w fun v w' => v = .bool (decide (lo ≤ n ∧ n ≤ hi)) ∧ w' = w := by
  refine spec_l01In_ret ?_
  unfold spec_l01In
  refine ifD (fun h => ⟨?_, rfl⟩) (fun h => ⟨?_, rfl⟩) <;> simp [h]

def enNames : List ByteArray := [S [111, 107], S [102, 111, 114, 109], S [97, 99, 99, 116], S [99, 117, 114], S [115, 117, 109], S [108, 97, 114, 103, 101]]
def enName (c : Int) : ByteArray := if 0 ≤ c ∧ c ≤ 5 then enNames.getD c.toNat (S []) else S []

theorem enNames_at {c : Int} (h : 0 ≤ c ∧ c ≤ 5) : (enNames.map Value.string)[c.toNat]? = some (.string (enName c)) := by
  have hl : c.toNat < enNames.length := by show c.toNat < 6; omega
  simp only [enName, if_pos h, List.getElem?_map, List.getD_eq_getElem?_getD, List.getElem?_eq_getElem hl, Option.map_some, Option.getD_some]

theorem spec_EnName_c (c : Int) (w : World) : Ret P n_spec_EnName [.int .i64 c] w fun v w' => v = .string (enName c) ∧ Ext w w' := by
  refine spec_EnName_ret ?_
  unfold spec_EnName
  refine Ret.at (spec_l01In_c c 0 5 w) ?_
  rintro v w1 ⟨rfl, rfl⟩
  refine ⟨_, rfl, ifN (fun h => ?_) (fun h => ?_)⟩
  · have h' : ¬ (0 ≤ c ∧ c ≤ 5) := of_decide_eq_false h
    exact ⟨by simp only [enName, if_neg h'], Ext.refl _⟩
  · have h' : 0 ≤ c ∧ c ≤ 5 := of_decide_eq_true h
    intro r w2 hn
    refine ⟨⟨h'.1, by omega⟩, _, hn.blk.load (by kernel_rfl) (by rw [Nat.mul_one]; exact enNames_at h'), rfl, hn.ext⟩

theorem impl_nameAt_c {w : World} {p : Option Addr} {n c : Nat} {i : Int} {b : Nat} {ss : List ByteArray} (hp : p = some ⟨b, 0, none⟩) (hs : Seg w b 0 (ss.map Value.string)) (hn : ss.length = n) :
    Ret P n_impl_nameAt [.int .i64 i, .slice p n c] w fun v w' => v = .string (if 0 ≤ i ∧ i < n then ss.getD i.toNat (S []) else S []) ∧ w' = w := by
  refine impl_nameAt_ret ?_
  unfold impl_nameAt
  subst hp
  refine ifD (fun h => ifT ⟨?_, rfl⟩) (fun h => ifD (fun h2 => ⟨?_, rfl⟩) (fun h2 => ?_))
  · rw [if_neg (by omega)]
  · rw [if_neg (by omega)]
  · have hl : i.toNat < ss.length := by omega
    refine ⟨⟨by omega, by omega⟩, ss[i.toNat], hs.load (by kernel_rfl) (by simp [hl]), ?_, rfl⟩
    rw [if_pos (by omega)]
    simp [List.getD_eq_getElem?_getD, hl]

theorem impl_EnName_c (c : Int) (w : World) : Ret P n_impl_EnName [.int .i64 c] w fun v w' => v = .string (enName c) ∧ Ext w w' := by
  refine impl_EnName_ret ?_
  unfold impl_EnName
  intro r w1 hn
  refine Ret.at (impl_nameAt_c (ss := enNames) rfl hn.blk.seg rfl) ?_
  rintro v w2 ⟨rfl, rfl⟩
  refine ⟨_, rfl, ?_, hn.ext⟩
  congr 1
  by_cases h : 0 ≤ c ∧ c ≤ 5
  · rw [if_pos (by omega), enName, if_pos h]
  · rw [if_neg (by omega), enName, if_neg h]

theorem laws_FnExactEnName_c (c : Int) (w : World) : Ret P n_laws_FnExactEnName [.int .i64 c] w fun v w' => v = .bool true ∧ Ext w w' := by
  refine laws_FnExactEnName_ret ?_
  unfold laws_FnExactEnName
  refine Ret.at (spec_EnName_c c w) ?_
  rintro v w1 ⟨rfl, h1⟩
  refine ⟨_, rfl, ?_⟩
  refine Ret.at (impl_EnName_c c w1) ?_
  rintro v w2 ⟨rfl, h2⟩
  exact ⟨_, rfl, ifD (fun h => absurd rfl h) (fun _ => ⟨rfl, h1.trans h2⟩)⟩

end Go.Proofs.Ytjbbelfocdbeeaa
