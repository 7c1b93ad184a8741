/-
  Contracts: a decimal number brought to a scale, in the program.
-/
import Derived.Test.YtfbmjimhjlmhkaaCDec
import Derived.Test.YtfbmjimhjlmhkaaCCmp
namespace Go.Proofs.Ytfbmjimhjlmhkaa
open Go Go.Proofs.Ytfbmjimhjlmhkaa.Sx
set_option linter.unusedVariables false
set_option linter.unusedSimpArgs false

theorem impl_scaled_1_c {w : World} {xs : List Value} {b : Bool} {z : List Int} {s sc : Int} {cb : Nat} {e : TypeId} (h : Reps w xs [.bool b, .ints z, .int s]) (hz : Limbs z) (hl : z.length ≤ 1000) (hs : 0 ≤ s) (hss : s ≤ sc) (hsc : sc ≤ 30) (hcap : Blk w cb e [.int .i64 sc]) :
    Ret P n_impl_scaled_1 [.agg ⟨xs⟩, .pointer (some ⟨cb, 0, none⟩)] w fun v w' => ∃ vs' f, v = .agg ⟨vs'⟩ ∧ Owns w' w.heap.size vs' (mkS b (digs (val z * 10 ^ (sc - s).toNat).toNat)) f ∧ f.Nodup ∧ Ext w w' := by
  obtain ⟨a0, a1p, a1n, a1c, a1z, a2, rfl, hd, ha⟩ := open_Dec h rfl
  cases hd
  have hlz := ha.1
  refine impl_scaled_1_ret ?_
  unfold impl_scaled_1
  intro r w1 hn1 r1 w2 hn2
  have X := hn1.ext.trans hn2.ext
  have D := Ext.drew w2
  have XD := X.trans D
  have k0 := hn1.blk.ext hn2.ext
  have e2 := hn2.r_eq; have s1 := hn1.size; have s2 := hn2.size
  have lD := D.le
  refine ⟨_, fun W hW => (k0.ext (D.trans hW)).loadAt 0 rfl (by kernel_rfl) rfl, _, _, _, fun W hW => (k0.ext (D.trans hW)).loadAt 1 rfl (by kernel_rfl) rfl, _, fun W hW => (hcap.ext (XD.trans hW)).load0 (by kernel_rfl) rfl, _, fun W hW => (k0.ext (D.trans hW)).loadAt 2 rfl (by kernel_rfl) rfl, exW ⟨by omega, by omega⟩ ?_⟩
  refine Ret.at (impl_natTen_c (by omega) (by omega)) ?_
  rintro v w3 ⟨p, n, c, hv, ho, y3⟩
  subst hv
  have hlen : n ≤ 4 := by
    have := ho.ints.1
    rw [← tenL_digs] at this
    simp [tenL] at this
    omega
  refine ⟨_, _, _, rfl, y3, ?_⟩
  refine Ret.at (impl_natMul_c (ha.ext (XD.trans y3)) ho.ints hz (digs_limbs _) (by omega) (by omega)) ?_
  rintro v w4 ⟨p2, n2, c2, hv, ho2, y4⟩
  subst hv
  rw [val_digs] at ho2
  refine ⟨_, _, _, rfl, y4, ?_⟩
  refine Ret.at (impl_signed_c ho2.ints.1) ?_
  rintro v w5 ⟨hv, y5⟩
  subst hv
  have l3 := y3.le
  obtain ⟨B, hB⟩ : ∃ B, B = (b && !(digs (val z * ((10 ^ (sc - s).toNat : Nat) : Int)).toNat).isEmpty) := ⟨_, rfl⟩
  rw [← hB]
  obtain ⟨w6, st, hb6, ch, sz⟩ := ((((hn2.blk.ext D).ext y3).ext y4).ext y5).storeA0 (P := P) (t := T_impl_Signed) (xs := [.bool B, .slice p2 n2 c2]) (by kernel_rfl) rfl (by simp [Value.oneCell'])
  refine ⟨_, _, _, _, rfl, w6, st, _, _, _, _, hb6.loadA0 (by kernel_rfl), _, _, rfl, ?_, nodup_opt p2, (((XD.trans y3).trans y4).trans y5).chg ch (by simp; omega)⟩
  have e10 : ((10 ^ (sc - s).toNat : Nat) : Int) = (10 : Int) ^ (sc - s).toNat := by simp
  rw [← e10]
  unfold mkS
  rw [← hB]
  exact ((Owns.int2 (ho2.ext y5)).chg1 ch (by omega)).mono (by omega)

end Go.Proofs.Ytfbmjimhjlmhkaa
