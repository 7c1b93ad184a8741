/-
  Contracts: integers negated, their sign, compared, in the program.
-/
import Derived.Test.YtfbmjimhjlmhkaaDoorCIntAdd
namespace Go.Proofs.YtfbmjimhjlmhkaaDoor
open Go Go.Proofs.YtfbmjimhjlmhkaaDoor.Sx
set_option linter.unusedVariables false
set_option linter.unusedSimpArgs false

def sgn (z : Int) : Int := if z < 0 then -1 else if z = 0 then 0 else 1

theorem impl_intSign_c {w : World} {xs : List Value} {z : Int} (h : Reps w xs (enc z)) : Ret P n_impl_intSign [.agg ⟨xs⟩] w fun v w' => v = .int .i64 (sgn z) ∧ Ext w w' := by
  obtain ⟨a0, a1p, a1n, a1c, a1z, rfl, hd, ha⟩ := open_Signed h rfl
  simp only [enc, List.cons.injEq, D0.bool.injEq, D0.ints.injEq, and_true] at hd
  obtain ⟨rfl, rfl⟩ := hd
  have hl := ha.1
  have he := isEmpty_digs (n := z.natAbs)
  refine impl_intSign_ret ?_
  unfold impl_intSign
  intro r w1 hn
  have hzero : (a1n = 0) ↔ z = 0 := by
    rw [← hl, List.length_eq_zero_iff, digs_nil]; omega
  refine ⟨_, _, _, hn.blk.load (by kernel_rfl) rfl, ifD (fun h0 => ⟨?_, hn.ext⟩) (fun h0 => ⟨_, hn.blk.load (by kernel_rfl) rfl, fun e => ⟨?_, hn.ext⟩, fun e => ⟨?_, hn.ext⟩⟩)⟩
  · have : z = 0 := hzero.1 (by omega)
    subst this; rfl
  · have e := of_decide_eq_true e
    simp [sgn, e]
  · have e := of_decide_eq_false e
    have : z ≠ 0 := fun h => h0 (by have := hzero.2 h; omega)
    simp [sgn, e, this]

theorem impl_intNeg_c {w : World} {xs : List Value} {z : Int} (h : Reps w xs (enc z)) (hz : (digs z.natAbs).length ≤ 10000000) : Ret P n_impl_intNeg [.agg ⟨xs⟩] w fun v w' => ∃ vs' f, v = .agg ⟨vs'⟩ ∧ Owns w' w.heap.size vs' (enc (-z)) f ∧ f.Nodup ∧ Ext w w' := by
  obtain ⟨a0, a1p, a1n, a1c, a1z, rfl, hd, ha⟩ := open_Signed h rfl
  simp only [enc, List.cons.injEq, D0.bool.injEq, D0.ints.injEq, and_true] at hd
  obtain ⟨rfl, rfl⟩ := hd
  have hl := ha.1
  refine impl_intNeg_ret ?_
  unfold impl_intNeg
  intro r w1 hn1 r1 w2 hn2
  have x := hn1.ext.trans hn2.ext
  have D := Ext.drew w2
  have XD := x.trans D
  have k0 := hn1.blk.ext hn2.ext
  have e2 := hn2.r_eq; have s1 := hn1.size; have s2 := hn2.size
  refine ⟨_, fun W hW => (k0.ext (D.trans hW)).load (by kernel_rfl) rfl, _, _, _, fun W hW => (k0.ext (D.trans hW)).load (by kernel_rfl) rfl, ?_⟩
  refine Ret.at (impl_natCopy_c (ha.ext XD) (by omega)) ?_
  rintro v w3 ⟨p, c, hv, ho, y3⟩
  subst hv
  refine ⟨_, _, _, rfl, y3, ?_⟩
  refine Ret.at (impl_signed_c ho.ints.1) ?_
  rintro v w4 ⟨hv, y4⟩
  subst hv
  have lD := D.le
  obtain ⟨w5, st, hb5, ch, sz⟩ := (((hn2.blk.ext D).ext y3).ext y4).storeA0 (P := P) (t := T_impl_Signed) (xs := [.bool (!(decide (z < 0)) && !(digs z.natAbs).isEmpty), .slice p a1n c]) (by kernel_rfl) rfl (by simp [Value.oneCell'])
  refine ⟨_, _, _, _, rfl, w5, st, _, _, _, _, hb5.loadA0 (by kernel_rfl), _, _, rfl, ?_, nodup_opt p, ((XD.trans y3).trans y4).chg ch (by simp; omega)⟩
  have eb : (!(decide (z < 0)) && !(digs z.natAbs).isEmpty) = decide (-z < 0) := by
    rw [isEmpty_digs]
    by_cases h0 : z = 0
    · subst h0; rfl
    · by_cases h1 : z < 0
      · have : ¬ (-z < 0) := by omega
        simp [h1]; omega
      · have h2 : z.natAbs ≠ 0 := by omega
        simp [h1, h0]; omega
  rw [eb]
  have := ((Owns.int2 (b := decide (-z < 0)) (ho.ext y4)).chg1 ch (by omega)).mono (B' := w.heap.size) (by omega)
  unfold enc
  rw [Int.natAbs_neg]
  exact this

end Go.Proofs.YtfbmjimhjlmhkaaDoor
