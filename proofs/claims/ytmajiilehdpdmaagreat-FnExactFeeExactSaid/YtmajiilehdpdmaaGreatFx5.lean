/-
  Parts of the proof of feeExact_holds: CTen, CDec, CCmp, CScaled, CDecCmp, CCopy, CRat, CRatLaw, CSpecDec, CDecMul, CDecLow, CRatA, CRatB, Tab, CCurr, DMark, DMarkS, CBookSum, CUndo, CRatC, CFeeL, CTaxRateOk, CStepsOk, CRoundB, CRatM, CRatMoney, CPercentL, CMoneyAS, SxFlS, DM, SxRow, SxOpen.
  Conditions: none.
-/
import Derived.Laws.BytesArg
import Derived.ProofKit
import Derived.Deep.Slices
import Derived.Test.YtmajiilehdpdmaaGreatFx4

namespace Go.Proofs.YtmajiilehdpdmaaGreat
open Go Go.Proofs.YtmajiilehdpdmaaGreat.Sx
set_option linter.unusedVariables false
set_option linter.unusedSimpArgs false
def tenL (k : Nat) : List Int := List.replicate (k / 9) 0 ++ [10 ^ (k % 9)]
theorem val_zeros : ∀ s : Nat, val (List.replicate s 0) = 0
  | 0 => rfl
  | s + 1 => by simp [List.replicate_succ, val, val_zeros s]
theorem ten_small {j : Nat} (h : j < 9) : (1 : Int) ≤ 10 ^ j ∧ (10 : Int) ^ j ≤ 100000000 := by
  have : j = 0 ∨ j = 1 ∨ j = 2 ∨ j = 3 ∨ j = 4 ∨ j = 5 ∨ j = 6 ∨ j = 7 ∨ j = 8 := by omega
  rcases this with h | h | h | h | h | h | h | h | h <;> subst h <;> decide
theorem tenL_canon (k : Nat) : Canon (tenL k) := by
  have h := ten_small (j := k % 9) (by omega)
  refine ⟨Limbs.append.2 ⟨fun x hx => by simp at hx; omega, Limbs.cons.2 ⟨by omega, Limbs.nil⟩⟩, ?_⟩
  simp only [tenL, List.getLast?_append, List.getLast?_singleton, Option.some_or, ne_eq, Option.some.injEq]
  omega
theorem val_tenL (k : Nat) : val (tenL k) = 10 ^ k := by
  unfold tenL
  rw [val_snoc, val_zeros, List.length_replicate, Int.zero_add]
  have : (1000000000 : Int) = 10 ^ 9 := by decide
  rw [this, ← Int.pow_mul, ← Int.pow_add]
  congr 1
  omega
theorem tenL_digs (k : Nat) : tenL k = digs (10 ^ k) := by
  have := digs_val (tenL_canon k)
  rw [val_tenL] at this
  rw [← this]
  congr 1
theorem impl_natTen_c {w : World} {k : Int} (h0 : 0 ≤ k) (h1 : k ≤ 1000) :
    Ret P n_impl_natTen [.int .i64 k] w fun v w' => ∃ p' n' c', v = .slice p' n' c' ∧ Own w' w.heap.size T_int 1 p' n' c' ((digs (10 ^ k.toNat)).map (Value.int .i64)) ∧ Ext w w' := by
  refine impl_natTen_ret ?_
  unfold impl_natTen
  have ed : Int.tdiv k 9 = k / 9 := Int.tdiv_eq_ediv_of_nonneg h0
  have em : Int.tmod k 9 = k % 9 := Int.tmod_eq_emod_of_nonneg h0
  rw [ed, em]
  refine ⟨by decide, exW ⟨by omega, by omega⟩ ⟨by decide, exW ⟨by omega, by omega⟩ (exW ⟨by omega, by omega⟩ ⟨⟨by omega, by omega, by omega⟩, fun r w1 hn1 => ?_⟩)⟩⟩
  have hre := hn1.r_eq
  refine ⟨by decide, _, rfl, fun top i wr => ∃ j : Nat, i = j ∧ (j : Int) ≤ k % 9 ∧ wr = w1 ∧ top = 10 ^ j, fun _ i _ => 9 - i.toNat, ⟨0, rfl, by omega, rfl, rfl⟩, ?_⟩
  intro junk wr top i ⟨j, hi, hj, hw, ht⟩
  subst hi; subst hw; subst ht
  have T := ten_small (j := j) (by omega)
  refine ifD (fun hlt => ?_) (fun hge => ?_)
  · refine exW ⟨by omega, by omega⟩ (exW ⟨by omega, by omega⟩ ⟨⟨j + 1, by omega, by omega, rfl, by rw [Int.pow_succ]⟩, ?_⟩)
    show 9 - ((j : Int) + 1).toNat < 9 - (j : Int).toNat
    omega
  · intro r1 w2 hn2
    have hblk : Blk wr r T_int (List.replicate ((k / 9 + 1).toNat) (Value.int .i64 0)) := by
      have := hn1.blk
      rwa [zeroRow_int, Nat.mul_one] at this
    have hown : Own wr w.heap.size T_int 1 (some ⟨r, 0, none⟩) (k / 9).toNat (k / 9 + 1).toNat ((List.replicate (k / 9).toNat (0 : Int)).map (Value.int .i64)) := by
      have hfull : Own wr w.heap.size T_int 1 (some ⟨r, 0, none⟩) (k / 9 + 1).toNat (k / 9 + 1).toNat ((List.replicate (k / 9 + 1).toNat (0 : Int)).map (Value.int .i64)) := by
        rw [List.map_replicate]
        exact Own.of_blk hblk (by omega) (by simp) (by simp only [maxLen]; omega)
      have := hfull.sub (m := (k / 9).toNat) (by omega)
      rwa [List.take_replicate, show min (k / 9).toNat (k / 9 + 1).toNat = (k / 9).toNat by omega] at this
    obtain ⟨p', c', w3, g1, g2, g3⟩ := Own.push hown hn1.ext.le hn2 (by omega)
    refine ⟨_, _, _, _, g1, _, _, _, rfl, ?_, g3 w hn1.ext (Nat.le_refl _)⟩
    rw [← tenL_digs]
    have ej : j = k.toNat % 9 := by omega
    have ek : (k / 9).toNat = k.toNat / 9 := by omega
    rw [ej, ek] at g2
    rw [ek]
    exact g2
theorem spec_NatTen_c {w : World} {k : Int} (h0 : 0 ≤ k) (h1 : k ≤ 449) :
    Ret P n_spec_NatTen [.int .i64 k] w fun v w' => ∃ p' n' c', v = .slice p' n' c' ∧ Own w' w.heap.size T_int 1 p' n' c' ((digs (10 ^ k.toNat)).map (Value.int .i64)) ∧ Ext w w' := by
  refine spec_NatTen_ret ?_
  unfold spec_NatTen
  have ed : Int.tdiv k 9 = k / 9 := Int.tdiv_eq_ediv_of_nonneg h0
  have em : Int.tmod k 9 = k % 9 := Int.tmod_eq_emod_of_nonneg h0
  rw [ed, em]
  refine Ret.at (spec_l01In_c k 0 449 w) ?_
  rintro v w0 ⟨hv, hw⟩
  subst hv; subst hw
  refine ⟨_, rfl, ifN (fun h => absurd (of_decide_eq_false h) (by omega)) (fun _ => ⟨by decide, exW ⟨by omega, by omega⟩ ⟨⟨by omega, by omega, by omega⟩, fun r w1 hn1 => ?_⟩⟩)⟩
  have hre := hn1.r_eq
  refine ⟨fun top i wr => ∃ j : Nat, i = j ∧ (j : Int) ≤ k % 9 ∧ wr = w1 ∧ top = 10 ^ j, fun _ i _ => 9 - i.toNat, ⟨0, rfl, by omega, rfl, rfl⟩, ?_⟩
  intro junk wr top i ⟨j, hi, hj, hw, ht⟩
  subst hi; subst hw; subst ht
  have T := ten_small (j := j) (by omega)
  refine ⟨by decide, _, rfl, ifD (fun hlt => ?_) (fun hge => ?_)⟩
  · refine exW ⟨by omega, by omega⟩ (exW ⟨by omega, by omega⟩ ⟨⟨j + 1, by omega, by omega, rfl, by rw [Int.pow_succ]⟩, ?_⟩)
    show 9 - ((j : Int) + 1).toNat < 9 - (j : Int).toNat
    omega
  · intro r1 w2 hn2
    have hblk : Blk wr r T_int (List.replicate ((k / 9).toNat) (Value.int .i64 0)) := by
      have := hn1.blk
      rwa [zeroRow_int, Nat.mul_one] at this
    have hown : Own wr w0.heap.size T_int 1 (some ⟨r, 0, none⟩) (k / 9).toNat (k / 9).toNat ((List.replicate (k / 9).toNat (0 : Int)).map (Value.int .i64)) := by
      rw [List.map_replicate]
      exact Own.of_blk hblk (by omega) (by simp) (by simp only [maxLen]; omega)
    obtain ⟨p', c', w3, g1, g2, g3⟩ := Own.push hown hn1.ext.le hn2 (by omega)
    refine ⟨_, _, _, _, g1, _, _, _, rfl, ?_, g3 w0 hn1.ext (Nat.le_refl _)⟩
    rw [← tenL_digs]
    have ej : j = k.toNat % 9 := by omega
    have ek : (k / 9).toNat = k.toNat / 9 := by omega
    rw [ej, ek] at g2
    rw [ek]
    exact g2
end Go.Proofs.YtmajiilehdpdmaaGreat

namespace Go.Proofs.YtmajiilehdpdmaaGreat
open Go Go.Proofs.YtmajiilehdpdmaaGreat.Sx
set_option linter.unusedVariables false
set_option linter.unusedSimpArgs false
def decOk : List D0 → Bool
  | [.bool b, .ints z, .int s] => intOk [.bool b, .ints z] && decide (z.length ≤ 6) && decide (0 ≤ s ∧ s ≤ 30)
  | _ => false
theorem impl_isScale_c (s : Int) (w : World) : Ret P n_impl_isScale [.int .i64 s] w fun v w' => v = .bool (decide (0 ≤ s ∧ s ≤ 30)) ∧ w' = w := by
  refine impl_isScale_ret ?_
  unfold impl_isScale
  refine ifD (fun h => ⟨?_, rfl⟩) (fun h => ⟨?_, rfl⟩) <;> simp [h]
theorem spec_DecOk_c {w : World} {xs : List Value} {dx : List D0} (h : Reps w xs dx) (hc : dx.map D0.code = [.bool, .ints, .int]) :
    Ret P n_spec_DecOk [.agg ⟨xs⟩] w fun v w' => v = .bool (decOk dx) ∧ Ext w w' := by
  obtain ⟨a0, a1p, a1n, a1c, a1z, a2, rfl, rfl, ha⟩ := open_Dec h hc
  refine spec_DecOk_ret ?_
  unfold spec_DecOk
  intro r w1 hn1
  have x := hn1.ext
  have hl := ha.1
  refine ⟨_, _, _, _, hn1.blk.loadAAt 0 [.bool a0, .slice a1p a1n a1c] rfl (by kernel_rfl) rfl, ?_⟩
  refine Ret.at (spec_IntOk_c (dx := [.bool a0, .ints a1z]) ⟨rfl, ⟨_, _, _, rfl, ha.ext x⟩, trivial⟩ rfl) ?_
  rintro v w2 ⟨hv, y⟩
  subst hv
  have x := x.trans y; have b := hn1.blk.ext y
  refine ⟨_, rfl, fun e => ⟨_, _, _, b.loadAt 1 rfl (by kernel_rfl) rfl, ifD (fun hle => ?_) (fun hgt => ⟨?_, x⟩)⟩, fun e => ifF ⟨?_, x⟩⟩
  · refine ⟨_, b.loadAt 2 rfl (by kernel_rfl) rfl, ?_⟩
    refine Ret.at (spec_l01In_c a2 0 30 w2) ?_
    rintro v w3 ⟨hv, hw⟩
    subst hv; subst hw
    exact ⟨_, rfl, by simp only [decOk, e, show decide (a1z.length ≤ 6) = true by simp; omega, Bool.true_and], x⟩
  · simp only [decOk, show decide (a1z.length ≤ 6) = false by simp; omega, Bool.and_false, Bool.false_and]
  · simp only [decOk, e, Bool.false_and]
theorem impl_DecOk_c {w : World} {xs : List Value} {dx : List D0} (h : Reps w xs dx) (hc : dx.map D0.code = [.bool, .ints, .int]) :
    Ret P n_impl_DecOk [.agg ⟨xs⟩] w fun v w' => v = .bool (decOk dx) ∧ Ext w w' := by
  obtain ⟨a0, a1p, a1n, a1c, a1z, a2, rfl, rfl, ha⟩ := open_Dec h hc
  refine impl_DecOk_ret ?_
  unfold impl_DecOk
  intro r w1 hn1
  have x := hn1.ext
  have hl := ha.1
  refine ⟨_, _, _, _, hn1.blk.loadAAt 0 [.bool a0, .slice a1p a1n a1c] rfl (by kernel_rfl) rfl, ?_⟩
  refine Ret.at (impl_IntOk_c (dx := [.bool a0, .ints a1z]) ⟨rfl, ⟨_, _, _, rfl, ha.ext x⟩, trivial⟩ rfl) ?_
  rintro v w2 ⟨hv, y⟩
  subst hv
  have x := x.trans y; have b := hn1.blk.ext y
  refine ⟨_, rfl, fun e => ⟨_, _, _, b.loadAt 1 rfl (by kernel_rfl) rfl, ifD (fun hle => ?_) (fun hgt => ⟨?_, x⟩)⟩, fun e => ifF ⟨?_, x⟩⟩
  · refine ⟨_, b.loadAt 2 rfl (by kernel_rfl) rfl, ?_⟩
    refine Ret.at (impl_isScale_c a2 w2) ?_
    rintro v w3 ⟨hv, hw⟩
    subst hv; subst hw
    exact ⟨_, rfl, by simp only [decOk, e, show decide (a1z.length ≤ 6) = true by simp; omega, Bool.true_and], x⟩
  · simp only [decOk, show decide (a1z.length ≤ 6) = false by simp; omega, Bool.and_false, Bool.false_and]
  · simp only [decOk, e, Bool.false_and]
end Go.Proofs.YtmajiilehdpdmaaGreat

namespace Go.Proofs.YtmajiilehdpdmaaGreat
open Go Go.Proofs.YtmajiilehdpdmaaGreat.Sx
set_option linter.unusedVariables false
set_option linter.unusedSimpArgs false
def sgn (z : Int) : Int := if z < 0 then -1 else if z = 0 then 0 else 1
theorem impl_intSign_c {w : World} {xs : List Value} {z : Int} (h : Reps w xs (enc z)) : Ret P n_impl_intSign [.agg ⟨xs⟩] w fun v w' => v = .int .i64 (sgn z) ∧ Ext w w' := by
  obtain ⟨a0, a1p, a1n, a1c, a1z, rfl, hd, ha⟩ := open_Signed h rfl
  simp only [enc, List.cons.injEq, D0.bool.injEq, D0.ints.injEq, and_true] at hd
  obtain ⟨rfl, rfl⟩ := hd
  have hl := ha.1
  have he := isEmpty_digs (n := z.natAbs)
  refine impl_intSign_ret ?_
  unfold impl_intSign
  intro r w1 hn
  have hzero : (a1n = 0) ↔ z = 0 := by
    rw [← hl, List.length_eq_zero_iff, digs_nil]; omega
  refine ⟨_, _, _, hn.blk.load (by kernel_rfl) rfl, ifD (fun h0 => ⟨?_, hn.ext⟩) (fun h0 => ⟨_, hn.blk.load (by kernel_rfl) rfl, fun e => ⟨?_, hn.ext⟩, fun e => ⟨?_, hn.ext⟩⟩)⟩
  · have : z = 0 := hzero.1 (by omega)
    subst this; rfl
  · have e := of_decide_eq_true e
    simp [sgn, e]
  · have e := of_decide_eq_false e
    have : z ≠ 0 := fun h => h0 (by have := hzero.2 h; omega)
    simp [sgn, e, this]
theorem impl_intNeg_c {w : World} {xs : List Value} {z : Int} (h : Reps w xs (enc z)) (hz : (digs z.natAbs).length ≤ 10000000) : Ret P n_impl_intNeg [.agg ⟨xs⟩] w fun v w' => ∃ vs' f, v = .agg ⟨vs'⟩ ∧ Owns w' w.heap.size vs' (enc (-z)) f ∧ f.Nodup ∧ Ext w w' := by
  obtain ⟨a0, a1p, a1n, a1c, a1z, rfl, hd, ha⟩ := open_Signed h rfl
  simp only [enc, List.cons.injEq, D0.bool.injEq, D0.ints.injEq, and_true] at hd
  obtain ⟨rfl, rfl⟩ := hd
  have hl := ha.1
  refine impl_intNeg_ret ?_
  unfold impl_intNeg
  intro r w1 hn1 r1 w2 hn2
  have x := hn1.ext.trans hn2.ext
  have D := Ext.drew w2
  have XD := x.trans D
  have k0 := hn1.blk.ext hn2.ext
  have e2 := hn2.r_eq; have s1 := hn1.size; have s2 := hn2.size
  refine ⟨_, fun W hW => (k0.ext (D.trans hW)).load (by kernel_rfl) rfl, _, _, _, fun W hW => (k0.ext (D.trans hW)).load (by kernel_rfl) rfl, ?_⟩
  refine Ret.at (impl_natCopy_c (ha.ext XD) (by omega)) ?_
  rintro v w3 ⟨p, c, hv, ho, y3⟩
  subst hv
  refine ⟨_, _, _, rfl, y3, ?_⟩
  refine Ret.at (impl_signed_c ho.ints.1) ?_
  rintro v w4 ⟨hv, y4⟩
  subst hv
  have lD := D.le
  obtain ⟨w5, st, hb5, ch, sz⟩ := (((hn2.blk.ext D).ext y3).ext y4).storeA0 (P := P) (t := T_impl_Signed) (xs := [.bool (!(decide (z < 0)) && !(digs z.natAbs).isEmpty), .slice p a1n c]) (by kernel_rfl) rfl (by simp [Value.oneCell'])
  refine ⟨_, _, _, _, rfl, w5, st, _, _, _, _, hb5.loadA0 (by kernel_rfl), _, _, rfl, ?_, nodup_opt p, ((XD.trans y3).trans y4).chg ch (by simp; omega)⟩
  have eb : (!(decide (z < 0)) && !(digs z.natAbs).isEmpty) = decide (-z < 0) := by
    rw [isEmpty_digs]
    by_cases h0 : z = 0
    · subst h0; rfl
    · by_cases h1 : z < 0
      · have : ¬ (-z < 0) := by omega
        simp [h1]; omega
      · have h2 : z.natAbs ≠ 0 := by omega
        simp [h1, h0]; omega
  rw [eb]
  have := ((Owns.int2 (b := decide (-z < 0)) (ho.ext y4)).chg1 ch (by omega)).mono (B' := w.heap.size) (by omega)
  unfold enc
  rw [Int.natAbs_neg]
  exact this
theorem impl_intCmp_c {w : World} {xs ys : List Value} {x y : Int} (h : Reps w xs (enc x)) (k : Reps w ys (enc y)) (hx : (digs x.natAbs).length ≤ 10000000) (hy : (digs y.natAbs).length ≤ 10000000) :
    Ret P n_impl_intCmp [.agg ⟨xs⟩, .agg ⟨ys⟩] w fun v w' => v = .int .i64 (sgn (x - y)) ∧ Ext w w' := by
  have hr := h; have kr := k
  obtain ⟨a0, a1p, a1n, a1c, a1z, rfl, hd, ha⟩ := open_Signed h rfl
  obtain ⟨b0, b1p, b1n, b1c, b1z, rfl, he, hb⟩ := open_Signed k rfl
  refine impl_intCmp_ret ?_
  unfold impl_intCmp
  intro r w1 hn1 r1 w2 hn2
  have X := hn1.ext.trans hn2.ext
  have D := Ext.drew w2
  have XD := X.trans D
  have k0 := hn1.blk.ext hn2.ext; have k1 := hn2.blk
  refine ⟨_, _, _, _, fun W hW => (k0.ext (D.trans hW)).loadA0 (by kernel_rfl), _, _, _, _, fun W hW => (k1.ext (D.trans hW)).loadA0 (by kernel_rfl), ?_⟩
  refine Ret.at (impl_intNeg_c (kr.ext XD) hy) ?_
  rintro v w3 ⟨vs', f, hv, ho, _, y3⟩
  subst hv
  obtain ⟨q0, q1p, q1n, q1c, q1z, rfl, hq, hqi⟩ := open_Signed ho.reps (enc_code _)
  refine ⟨_, _, _, _, rfl, y3, ?_⟩
  refine Ret.at (impl_intAdd_c (hr.ext (XD.trans y3)) ho.reps hx (by rw [Int.natAbs_neg]; exact hy)) ?_
  rintro v w4 ⟨p, n, c, hv, hown, y4⟩
  subst hv
  refine ⟨_, _, _, _, rfl, ?_⟩
  have hs : Reps w4 [.bool (decide (x + -y < 0)), .slice p n c] (enc (x + -y)) := ⟨rfl, ⟨_, _, _, rfl, hown.ints⟩, trivial⟩
  refine Ret.at (impl_intSign_c hs) ?_
  rintro v w5 ⟨hv, y5⟩
  subst hv
  exact ⟨_, rfl, rfl, ((XD.trans y3).trans y4).trans y5⟩
end Go.Proofs.YtmajiilehdpdmaaGreat

namespace Go.Proofs.YtmajiilehdpdmaaGreat
open Go Go.Proofs.YtmajiilehdpdmaaGreat.Sx
set_option linter.unusedVariables false
set_option linter.unusedSimpArgs false
theorem impl_scaled_1_c {w : World} {xs : List Value} {b : Bool} {z : List Int} {s sc : Int} {cb : Nat} {e : TypeId} (h : Reps w xs [.bool b, .ints z, .int s]) (hz : Limbs z) (hl : z.length ≤ 1000) (hs : 0 ≤ s) (hss : s ≤ sc) (hsc : sc ≤ 30) (hcap : Blk w cb e [.int .i64 sc]) :
    Ret P n_impl_scaled_1 [.agg ⟨xs⟩, .pointer (some ⟨cb, 0, none⟩)] w fun v w' => ∃ vs' f, v = .agg ⟨vs'⟩ ∧ Owns w' w.heap.size vs' (mkS b (digs (val z * 10 ^ (sc - s).toNat).toNat)) f ∧ f.Nodup ∧ Ext w w' := by
  obtain ⟨a0, a1p, a1n, a1c, a1z, a2, rfl, hd, ha⟩ := open_Dec h rfl
  cases hd
  have hlz := ha.1
  refine impl_scaled_1_ret ?_
  unfold impl_scaled_1
  intro r w1 hn1 r1 w2 hn2
  have X := hn1.ext.trans hn2.ext
  have D := Ext.drew w2
  have XD := X.trans D
  have k0 := hn1.blk.ext hn2.ext
  have e2 := hn2.r_eq; have s1 := hn1.size; have s2 := hn2.size
  have lD := D.le
  refine ⟨_, fun W hW => (k0.ext (D.trans hW)).loadAt 0 rfl (by kernel_rfl) rfl, _, _, _, fun W hW => (k0.ext (D.trans hW)).loadAt 1 rfl (by kernel_rfl) rfl, _, fun W hW => (hcap.ext (XD.trans hW)).load0 (by kernel_rfl) rfl, _, fun W hW => (k0.ext (D.trans hW)).loadAt 2 rfl (by kernel_rfl) rfl, exW ⟨by omega, by omega⟩ ?_⟩
  refine Ret.at (impl_natTen_c (by omega) (by omega)) ?_
  rintro v w3 ⟨p, n, c, hv, ho, y3⟩
  subst hv
  have hlen : n ≤ 4 := by
    have := ho.ints.1
    rw [← tenL_digs] at this
    simp [tenL] at this
    omega
  refine ⟨_, _, _, rfl, y3, ?_⟩
  refine Ret.at (impl_natMul_c (ha.ext (XD.trans y3)) ho.ints hz (digs_limbs _) (by omega) (by omega)) ?_
  rintro v w4 ⟨p2, n2, c2, hv, ho2, y4⟩
  subst hv
  rw [val_digs] at ho2
  refine ⟨_, _, _, rfl, y4, ?_⟩
  refine Ret.at (impl_signed_c ho2.ints.1) ?_
  rintro v w5 ⟨hv, y5⟩
  subst hv
  have l3 := y3.le
  obtain ⟨B, hB⟩ : ∃ B, B = (b && !(digs (val z * ((10 ^ (sc - s).toNat : Nat) : Int)).toNat).isEmpty) := ⟨_, rfl⟩
  rw [← hB]
  obtain ⟨w6, st, hb6, ch, sz⟩ := ((((hn2.blk.ext D).ext y3).ext y4).ext y5).storeA0 (P := P) (t := T_impl_Signed) (xs := [.bool B, .slice p2 n2 c2]) (by kernel_rfl) rfl (by simp [Value.oneCell'])
  refine ⟨_, _, _, _, rfl, w6, st, _, _, _, _, hb6.loadA0 (by kernel_rfl), _, _, rfl, ?_, nodup_opt p2, (((XD.trans y3).trans y4).trans y5).chg ch (by simp; omega)⟩
  have e10 : ((10 ^ (sc - s).toNat : Nat) : Int) = (10 : Int) ^ (sc - s).toNat := by simp
  rw [← e10]
  unfold mkS
  rw [← hB]
  exact ((Owns.int2 (ho2.ext y5)).chg1 ch (by omega)).mono (by omega)
end Go.Proofs.YtmajiilehdpdmaaGreat

namespace Go.Proofs.YtmajiilehdpdmaaGreat
open Go Go.Proofs.YtmajiilehdpdmaaGreat.Sx
set_option linter.unusedVariables false
set_option linter.unusedSimpArgs false
def dcmp : List D0 → List D0 → Int
  | [.bool a, .ints x, .int s], [.bool b, .ints y, .int t] => if decOk [.bool a, .ints x, .int s] && decOk [.bool b, .ints y, .int t] then
      sgn (ival [.bool a, .ints x] * 10 ^ (max s t - s).toNat - ival [.bool b, .ints y] * 10 ^ (max s t - t).toNat) else 0
  | _, _ => 0
theorem mkS_mul {b : Bool} {z : List Int} {m : Int} (hok : intOk [.bool b, .ints z] = true) (hm : 0 < m) : mkS b (digs (val z * m).toNat) = enc (ival [.bool b, .ints z] * m) := by
  obtain ⟨_, _, _, he, hc, _⟩ := intOk_enc hok
  simp only [List.cons.injEq, D0.bool.injEq, D0.ints.injEq, and_true] at he
  obtain ⟨rfl, rfl⟩ := he
  have hv := val_nonneg hc.1
  have hp : 0 ≤ val z * m := Int.mul_nonneg hv (Int.le_of_lt hm)
  obtain ⟨N, hN⟩ : ∃ N : Nat, val z * m = N := ⟨(val z * m).toNat, by omega⟩
  cases b with
  | false => simp only [ival, Bool.false_eq_true, if_false, hN, Int.toNat_natCast]; exact mkS_pos N
  | true => simp only [ival, if_true, Int.neg_mul, hN, Int.toNat_natCast]; exact mkS_neg N
theorem scaled_len {b : Bool} {z : List Int} {e : Nat} (hok : intOk [.bool b, .ints z] = true) (hl : z.length ≤ 6) (he : e ≤ 30) : (digs (ival [.bool b, .ints z] * 10 ^ e).natAbs).length ≤ 10 := by
  obtain ⟨_, _, _, h1, hc, _⟩ := intOk_enc hok
  simp only [List.cons.injEq, D0.bool.injEq, D0.ints.injEq, and_true] at h1
  obtain ⟨rfl, rfl⟩ := h1
  have hv := val_nonneg hc.1
  have hlt := val_lt hc.1
  have h6 : (1000000000 : Nat) ^ z.length ≤ 1000000000 ^ 6 := Nat.pow_le_pow_right (by decide) hl
  have h6' := Int.ofNat_le.2 h6
  rw [Int.natCast_pow, Int.natCast_pow] at h6'
  have hn : (val z).toNat < 1000000000 ^ 6 := by
    have : val z < (1000000000 : Int) ^ 6 := Int.lt_of_lt_of_le hlt h6'
    omega
  have ha : (ival [.bool b, .ints z]).natAbs = (val z).toNat := by cases b <;> simp only [ival, if_true, Bool.false_eq_true, if_false] <;> omega
  have h10 : ((10 : Int) ^ e).natAbs = 10 ^ e := by simp [Int.natAbs_pow]
  have h30 : (10 : Nat) ^ e ≤ 10 ^ 30 := Nat.pow_le_pow_right (by decide) he
  apply digs_len
  rw [Int.natAbs_mul, ha, h10]
  exact Nat.lt_of_lt_of_le (Nat.mul_lt_mul_of_lt_of_le hn h30 (by decide)) (by decide)
theorem icmp_enc {x y : Int} (hx : intOk (enc x) = true) (hy : intOk (enc y) = true) : icmp (enc x) (enc y) = sgn (x - y) := by
  have cv := cmpL_val (digs_canon x.natAbs) (digs_canon y.natAbs)
  have cv2 := cmpL_val (digs_canon y.natAbs) (digs_canon x.natAbs)
  rw [val_digs, val_digs] at cv cv2
  unfold enc at hx hy
  unfold enc
  simp only [icmp, hx, hy, Bool.not_true, Bool.or_self, Bool.false_eq_true, if_false, sgn]
  by_cases h1 : x < 0 <;> by_cases h2 : y < 0 <;> simp only [h1, h2, decide_true, decide_false, Bool.not_true, Bool.not_false, Bool.and_true, Bool.true_and, Bool.and_false, Bool.false_and, Bool.false_eq_true, if_true, if_false]
  · rcases cv2 with ⟨h, h'⟩ | ⟨h, h'⟩ | ⟨h, h'⟩ <;> rw [h] <;> (repeat' split) <;> omega
  · (repeat' split) <;> omega
  · (repeat' split) <;> omega
  · rcases cv with ⟨h, h'⟩ | ⟨h, h'⟩ | ⟨h, h'⟩ <;> rw [h] <;> (repeat' split) <;> omega
theorem decOk_spec {b : Bool} {z : List Int} {s : Int} (h : decOk [.bool b, .ints z, .int s] = true) : intOk [.bool b, .ints z] = true ∧ z.length ≤ 6 ∧ 0 ≤ s ∧ s ≤ 30 := by
  simp only [decOk, Bool.and_eq_true, decide_eq_true_eq] at h
  exact ⟨h.1.1, h.1.2, h.2.1, h.2.2⟩
theorem impl_DecCmp_c {w : World} {xs ys : List Value} {dx dy : List D0} (h : Reps w xs dx) (k : Reps w ys dy) (hc : dx.map D0.code = [.bool, .ints, .int]) (kc : dy.map D0.code = [.bool, .ints, .int]) :
    Ret P n_impl_DecCmp [.agg ⟨xs⟩, .agg ⟨ys⟩] w fun v w' => v = .int .i64 (dcmp dx dy) ∧ Ext w w' := by
  have hr := h; have kr := k
  obtain ⟨a0, a1p, a1n, a1c, a1z, a2, rfl, rfl, ha⟩ := open_Dec h hc
  obtain ⟨b0, b1p, b1n, b1c, b1z, b2, rfl, rfl, hb⟩ := open_Dec k kc
  refine impl_DecCmp_ret ?_
  unfold impl_DecCmp
  intro r w1 hn1 r1 w2 hn2
  have X := hn1.ext.trans hn2.ext
  have k0 := hn1.blk.ext hn2.ext; have k1 := hn2.blk
  have bad : ∀ W, Ext w2 W → (decOk [.bool a0, .ints a1z, .int a2] && decOk [.bool b0, .ints b1z, .int b2]) = false → Value.int .i64 0 = .int .i64 (dcmp [.bool a0, .ints a1z, .int a2] [.bool b0, .ints b1z, .int b2]) ∧ Ext w W := fun W hW hno => ⟨by simp only [dcmp, hno]; rfl, X.trans hW⟩
  refine ⟨_, _, _, _, _, k0.loadA0 (by kernel_rfl), ?_⟩
  refine Ret.at (impl_DecOk_c (hr.ext X) rfl) ?_
  rintro v w3 ⟨hv, y3⟩
  subst hv
  refine ⟨_, rfl, ifN (fun hno => ifT (bad w3 y3 (by simp [hno]))) (fun hok1 => ?_)⟩
  refine ⟨_, _, _, _, _, (k1.ext y3).loadA0 (by kernel_rfl), ?_⟩
  refine Ret.at (impl_DecOk_c (kr.ext (X.trans y3)) rfl) ?_
  rintro v w4 ⟨hv, y4⟩
  subst hv
  refine ⟨_, rfl, ifN (fun hno => bad w4 (y3.trans y4) (by simp [hno])) (fun hok2 => ?_)⟩
  obtain ⟨o1, l1, s1, t1⟩ := decOk_spec hok1
  obtain ⟨o2, l2, s2, t2⟩ := decOk_spec hok2
  have X4 := (X.trans y3).trans y4
  have k0 := (k0.ext y3).ext y4; have k1 := (k1.ext y3).ext y4
  unfold impl_DecCmp_j0
  have emax : (if b2 > a2 then b2 else a2) = max a2 b2 := by split <;> omega
  refine ⟨_, k0.loadAt 2 rfl (by kernel_rfl) rfl, _, k1.loadAt 2 rfl (by kernel_rfl) rfl, _, rfl, ?_⟩
  rw [emax]
  refine Ret.at (R := fun v w' => ∃ r, v = .func (.func n_impl_scaled_1) ⟨[]⟩ ⟨[.pointer (some ⟨r, 0, none⟩)]⟩ ∧ Blk w' r T_int [.int .i64 (max a2 b2)] ∧ Ext w4 w') ?_ ?_
  · refine impl_scaled_ret ?_
    unfold impl_scaled
    intro r5 w5 hn5
    exact ⟨r5, rfl, hn5.blk, hn5.ext⟩
  rintro v w5 ⟨r5, hv, hb5, y5⟩
  subst hv
  have D := Ext.drew w5
  have X5 := (X4.trans y5).trans D
  have q0 := (k0.ext y5).ext D; have q1 := (k1.ext y5).ext D
  have la := (intOk_enc o1).2
  obtain ⟨_, _, h1, c1, _⟩ := la
  simp only [List.cons.injEq, D0.bool.injEq, D0.ints.injEq, and_true] at h1
  obtain ⟨rfl, rfl⟩ := h1
  obtain ⟨_, _, h2, c2, _⟩ := (intOk_enc o2).2
  simp only [List.cons.injEq, D0.bool.injEq, D0.ints.injEq, and_true] at h2
  obtain ⟨rfl, rfl⟩ := h2
  have p1 : (0 : Int) < 10 ^ (max a2 b2 - a2).toNat := Int.pow_pos (by decide)
  have p2 : (0 : Int) < 10 ^ (max a2 b2 - b2).toNat := Int.pow_pos (by decide)
  refine ⟨_, rfl, _, _, _, _, _, fun W hW => (q0.ext hW).loadA0 (by kernel_rfl), _, _, _, rfl, by kernel_rfl, ?_⟩
  refine Calls.mono (impl_scaled_1_c (hr.ext X5) c1.1 (by omega) (by omega) (by omega) (by omega) (hb5.ext D)) ?_
  rintro e w6 ⟨v, he, vs1, f1, hv, ho1, _, y6⟩
  subst hv
  rw [mkS_mul o1 p1] at ho1
  obtain ⟨g0, gp, gn, gc, gz, rfl, hg, hgi⟩ := open_Signed ho1.reps (enc_code _)
  refine ⟨_, _, _, _, he, y6, _, _, _, _, _, fun W hW => (q1.ext hW).loadA0 (by kernel_rfl), _, _, _, rfl, by kernel_rfl, ?_⟩
  refine Calls.mono (impl_scaled_1_c (kr.ext (X5.trans y6)) c2.1 (by omega) (by omega) (by omega) (by omega) ((hb5.ext D).ext y6)) ?_
  rintro e w7 ⟨v, he2, vs2, f2, hv, ho2, _, y7⟩
  subst hv
  rw [mkS_mul o2 p2] at ho2
  obtain ⟨g20, g2p, g2n, g2c, g2z, rfl, hg2, hgi2⟩ := open_Signed ho2.reps (enc_code _)
  refine ⟨_, _, _, _, he2, ?_⟩
  refine Ret.at (impl_intCmp_c (ho1.reps.ext y7) ho2.reps (Nat.le_trans (scaled_len o1 l1 (by omega)) (by decide)) (Nat.le_trans (scaled_len o2 l2 (by omega)) (by decide))) ?_
  rintro v w8 ⟨hv, y8⟩
  subst hv
  refine ⟨_, rfl, ?_, ((X5.trans y6).trans y7).trans y8⟩
  simp only [dcmp, hok1, hok2, Bool.and_self, if_true]
end Go.Proofs.YtmajiilehdpdmaaGreat

namespace Go.Proofs.YtmajiilehdpdmaaGreat
open Go Go.Proofs.YtmajiilehdpdmaaGreat.Sx
set_option linter.unusedVariables false
set_option linter.unusedSimpArgs false
theorem Sx.append0 {w : World} {r : Nat} {q : Option Addr} {m d : Nat} {ys : List Int} (hb : Blk w r T_int []) (k : IntsR w q m d ys) (hm : m ≤ 100000000) :
    ∃ p' c' w', Appends P [T_s_int, T_s_int] [.slice (some ⟨r, 0, none⟩) 0 0, .slice q m d] (.slice p' m c') w w' ∧ Own w' r T_int 1 p' m c' (ys.map (Value.int .i64)) ∧ Ext w w' := by
  have h : Own w r T_int 1 (some ⟨r, 0, none⟩) 0 0 (([] : List Int).map (Value.int .i64)) := Own.of_blk0 hb (Nat.le_refl _) rfl (by decide)
  obtain ⟨p', c', w', h1, h2, h3⟩ := Own.appendI h (Nat.le_of_lt hb.lt) k (by omega)
  rw [Nat.zero_add] at h1 h2
  refine ⟨p', c', w', h1, by simpa using h2, ?_⟩
  obtain ⟨hu, hi, hz, hs⟩ := sliceT_int
  cases hinf : P.info? T_int with
  | none => rw [hinf] at hi; cases hi
  | some i =>
    rw [hinf] at hi
    simp only [Option.map_some, Option.some.injEq, Prod.mk.injEq] at hi
    cases q with
    | none =>
      have hm0 : m = 0 := by
        rcases Nat.eq_zero_or_pos m with h0 | h0
        · exact h0
        · obtain ⟨b, off, hp, _⟩ := k.2.2.2 h0; cases hp
      subst hm0
      have := run_append_none (P := P) w r T_s_int 0 T_int i 1 hu hinf _ 0 d _ h
      have h1 : (Builtin.append_ #[T_s_int, T_s_int] 0 #[.slice (some ⟨r, 0, none⟩) 0 0, .slice none 0 d]).run P w = .ok (.slice p' 0 c') w' := h1
      rw [this] at h1
      cases h1
      exact Ext.refl _
    | some a =>
      have hcells : ∀ j u, (ys.map (Value.int .i64))[j]? = some u → w.cell? (a.add j) = some u := by
        intro j u hj
        have hl : j < m := by
          have := (List.getElem?_eq_some_iff.1 hj).1
          rw [List.length_map, k.1] at this; exact this
        obtain ⟨b, off, hp, hseg⟩ := k.2.2.2 (by omega)
        cases hp
        rw [addr_add]
        exact hseg j u hj
      have h1 : (Builtin.append_ #[T_s_int, T_s_int] 0 #[.slice (some ⟨r, 0, none⟩) 0 0, .slice (some a) m d]).run P w = .ok (.slice p' m c') w' := h1
      rcases Nat.eq_zero_or_pos m with h0 | h0
      · subst h0
        have hy : ys = [] := List.eq_nil_of_length_eq_zero k.1
        subst hy
        have := run_append_room (P := P) w T_s_int 0 T_int i hu hinf r 0 0 #[] hb a 0 d [] (by simp) (by simp) (by simp) (by omega) (by simp)
        rw [this] at h1
        cases h1
        have e : w.setRow r ((#[] : Array Value).toList.take (0 * i.size) ++ ([] : List Value) ++ (#[] : Array Value).toList.drop (0 * i.size + ([] : List Value).length)).toArray = w := by
          have := setRow_self w r #[] T_int (0, 0) hb
          simpa using this
        rw [e]
        exact Ext.refl _
      · have hnext : Builtin.nextslicecap (0 + m) 0 * i.bytes ≤ 281474976710656 := by
          rw [Nat.zero_add, nextslicecap_zero h0, hi.2.2]; omega
        have := run_append_grow (P := P) w T_s_int 0 T_int i (.int .i64 0) hu hinf hi.1 ⟨r, 0, none⟩ 0 0 [] (by simp) (by simp) a m d (ys.map (Value.int .i64)) (by simp [k.1, hi.2.1]) hcells (by omega) (by omega) hnext
        rw [this] at h1
        injection h1 with _ hw
        rw [← hw]
        exact (Ext.drew w).trans ((Go.RowKit.Below.refl _ _).alloc (Nat.le_refl _) _)
theorem Sx.Fl.got {os : List Obj} {ss : List (Option Nat)} {w : World} {ss' : List (Option Nat)} {w' : World} (h : Fl os ss w ss' w') : ∀ {k r : Nat} {o : Obj}, ss[k]? = some none → os[k]? = some o → ss'[k]? = some (some r) → w.heap.size ≤ r ∧ w'.heap[r]? = some o := by
  induction h with
  | refl => intro k r o h0 _ h1; rw [h0] at h1; cases h1
  | step h1 h2 h3 ih =>
    rename_i ss w k' o' ss' w'
    intro k r o h0 ho hr
    by_cases hk : k' = k
    · subst hk
      rw [h2] at ho
      cases ho
      have hset : (ss.set k' (some w.heap.size))[k']? = some (some w.heap.size) := by
        rw [List.getElem?_set_self]
        exact (List.getElem?_eq_some_iff.1 h1).1
      have := h3.keeps hset
      rw [this] at hr
      cases hr
      exact ⟨Nat.le_refl _, (h3.ext.block _ (by simp)).trans (heap_alloc_new w _)⟩
    · obtain ⟨a, b⟩ := ih (k := k) (r := r) (o := o) (by rw [List.getElem?_set_ne hk]; exact h0) ho hr
      refine ⟨?_, b⟩
      have : w.heap.size ≤ (w.alloc o').heap.size := by simp
      omega
def ratZeroD : List D0 := [.bool false, .ints [], .ints [1]]
theorem spec_RatZero_c (w : World) : Ret P n_spec_RatZero [] w fun v w' => ∃ vs' f, v = .agg ⟨vs'⟩ ∧ Owns w' w.heap.size vs' ratZeroD f ∧ f.Nodup ∧ Ext w w' := by
  refine spec_RatZero_ret ?_
  unfold spec_RatZero
  intro r w1 hn1 r1 w2 hn2
  have e1 := hn1.r_eq; have e2 := hn2.r_eq; have s1 := hn1.size; have s2 := hn2.size
  obtain ⟨w3, st, hb3, ch, sz⟩ := (hn1.blk.ext hn2.ext).storeA0 (P := P) (t := T_impl_Rat) (xs := [.bool false, .slice none 0 0, .slice (some ⟨r1, 0, none⟩) 1 1]) (by kernel_rfl) rfl (by simp [Value.oneCell'])
  have ho : Own w3 w.heap.size T_int 1 (some ⟨r1, 0, none⟩) 1 1 (([1] : List Int).map (Value.int .i64)) := Own.of_blk (hn2.blk.chg ch (by simp; omega)) (by omega) rfl (by decide)
  exact ⟨w3, st, _, _, _, _, _, _, _, hb3.loadA0 (by kernel_rfl), _, _, rfl, Owns.append (Owns.bool _ _ false) (Owns.append (Owns.ints (zs := []) (Own.nil w3 w.heap.size T_int 1)) (Owns.ints ho)), by simp, (hn1.ext.trans hn2.ext).chg ch (by simp; omega)⟩
theorem impl_RatZero_c (w : World) : Ret P n_impl_RatZero [] w fun v w' => ∃ vs' f, v = .agg ⟨vs'⟩ ∧ Owns w' w.heap.size vs' ratZeroD f ∧ f.Nodup ∧ Ext w w' := by
  refine impl_RatZero_ret ?_
  unfold impl_RatZero
  intro r w1 hn1 r1 w2 hn2
  have e1 := hn1.r_eq; have e2 := hn2.r_eq; have s1 := hn1.size; have s2 := hn2.size
  obtain ⟨w3, st, hb3, ch, sz⟩ := (hn1.blk.ext hn2.ext).storeA0 (P := P) (t := T_impl_Rat) (xs := [.bool false, .slice none 0 0, .slice (some ⟨r1, 0, none⟩) 1 1]) (by kernel_rfl) rfl (by simp [Value.oneCell'])
  have ho : Own w3 w.heap.size T_int 1 (some ⟨r1, 0, none⟩) 1 1 (([1] : List Int).map (Value.int .i64)) := Own.of_blk (hn2.blk.chg ch (by simp; omega)) (by omega) rfl (by decide)
  exact ⟨w3, st, _, _, _, _, _, _, _, hb3.loadA0 (by kernel_rfl), _, _, rfl, Owns.append (Owns.bool _ _ false) (Owns.append (Owns.ints (zs := []) (Own.nil w3 w.heap.size T_int 1)) (Owns.ints ho)), by simp, (hn1.ext.trans hn2.ext).chg ch (by simp; omega)⟩
end Go.Proofs.YtmajiilehdpdmaaGreat

namespace Go.Proofs.YtmajiilehdpdmaaGreat
open Go Go.Proofs.YtmajiilehdpdmaaGreat.Sx
set_option linter.unusedVariables false
set_option linter.unusedSimpArgs false
def ratNum : List D0 → Int
  | [.bool s, .ints x, .ints _] => ival [.bool s, .ints x]
  | _ => 0
def ratDen : List D0 → Nat
  | [.bool _, .ints _, .ints y] => (val y).toNat
  | _ => 0
def rmk (n : Int) (d : Nat) : List D0 := [.bool (decide (n < 0)), .ints (digs n.natAbs), .ints (digs d)]
theorem rmk_enc (n : Int) (d : Nat) : rmk n d = enc n ++ [.ints (digs d)] := rfl
theorem rmk_code (n : Int) (d : Nat) : (rmk n d).map D0.code = [.bool, .ints, .ints] := rfl
theorem ratNum_rmk (n : Int) (d : Nat) : ratNum (rmk n d) = n := ival_enc n
theorem ratDen_rmk (n : Int) (d : Nat) : ratDen (rmk n d) = d := by simp [ratDen, rmk, val_digs]
theorem ival_natAbs {s : Bool} {x : List Int} (h : Limbs x) : (ival [.bool s, .ints x]).natAbs = (val x).toNat := by
  have := val_nonneg h
  unfold ival
  cases s <;> simp <;> omega
theorem ratOk_enc {dx : List D0} (h : ratOk dx = true) : dx = rmk (ratNum dx) (ratDen dx) ∧ 0 < ratDen dx ∧ Nat.gcd (ratNum dx).natAbs (ratDen dx) = 1 ∧ (digs (ratNum dx).natAbs).length ≤ 18 ∧ (digs (ratDen dx)).length ≤ 18 := by
  match dx, h with
  | [.bool s, .ints x, .ints y], h =>
    simp only [ratOk, Bool.and_eq_true, decide_eq_true_eq, Bool.not_eq_true'] at h
    obtain ⟨⟨⟨⟨⟨h1, h2⟩, h3⟩, h4⟩, h5⟩, h6⟩ := h
    have e1 := (intOk_enc h1).1
    obtain ⟨b', z', ez, can1, _⟩ := (intOk_enc h1).2
    simp only [List.cons.injEq, D0.ints.injEq, D0.bool.injEq, and_true] at ez
    obtain ⟨_, rfl⟩ := ez
    have can2 := (natOk_spec.1 h2).1
    have na := ival_natAbs (s := s) can1.1
    have ey := digs_val can2
    have hp := canon_pos can2 (by intro e; subst e; simp at h3)
    have ex := digs_val can1
    refine ⟨?_, ?_, ?_, ?_, ?_⟩
    · have e1' : [D0.bool s, .ints x] = enc (ratNum [.bool s, .ints x, .ints y]) := e1
      have ey' : digs (ratDen [.bool s, .ints x, .ints y]) = y := ey
      rw [rmk_enc, ← e1', ey']; rfl
    · simp only [ratDen]; omega
    · simp only [ratNum, ratDen, na]; exact h6
    · simp only [ratNum, na, ex]; exact h5
    · simp only [ratDen, ey]; exact h4
theorem ratOk_rmk {n : Int} {d : Nat} (hd : 0 < d) (hg : Nat.gcd n.natAbs d = 1) (h1 : (digs n.natAbs).length ≤ 18) (h2 : (digs d).length ≤ 18) : ratOk (rmk n d) = true := by
  have i1 : intOk [.bool (decide (n < 0)), .ints (digs n.natAbs)] = true := by
    have := icap_ok n
    rwa [icap_fit (by omega)] at this
  have i2 : natOk (digs d) = true := natOk_spec.2 ⟨digs_canon d, by omega⟩
  have i3 : (digs d).isEmpty = false := by rw [isEmpty_digs]; simp; omega
  simp only [ratOk, rmk, i1, i2, i3, decide_eq_true h1, decide_eq_true h2, val_digs, Int.toNat_natCast, Bool.not_false, Bool.and_self, Bool.true_and]
  exact decide_eq_true hg
theorem rat_parts {w : World} {vs : List Value} {dx : List D0} (h : Reps w vs dx) (hc : dx.map D0.code = [.bool, .ints, .ints]) (hok : ratOk dx = true) :
    ∃ p1 n1 c1 p2 n2 c2, vs = [.bool (decide (ratNum dx < 0)), .slice p1 n1 c1, .slice p2 n2 c2] ∧ IntsR w p1 n1 c1 (digs (ratNum dx).natAbs) ∧ IntsR w p2 n2 c2 (digs (ratDen dx)) ∧ n1 ≤ 18 ∧ n2 ≤ 18 ∧ Reps w [.bool (decide (ratNum dx < 0)), .slice p1 n1 c1] (enc (ratNum dx)) := by
  obtain ⟨e, h1, h2, h3, h4⟩ := ratOk_enc hok
  obtain ⟨a0, a1p, a1n, a1c, a1z, a2p, a2n, a2c, a2z, rfl, hd, ir1, ir2⟩ := open_Rat h hc
  rw [hd] at e
  simp only [rmk, List.cons.injEq, D0.ints.injEq, D0.bool.injEq, and_true] at e
  rw [← hd] at e
  obtain ⟨e0, e1, e2⟩ := e
  rw [e1] at ir1
  rw [e2] at ir2
  have l1 := ir1.1; have l2 := ir2.1
  exact ⟨_, _, _, _, _, _, by rw [e0], ir1, ir2, by omega, by omega, rfl, ⟨_, _, _, rfl, ir1⟩, trivial⟩
theorem prod_make {w : World} {n : Int} {d : Nat} {p : Option Addr} {m c : Nat} (h : IntsR w p m c (digs ((n.natAbs : Int) * d).toNat)) (hd : 0 < d) (hl : m ≤ 50) :
    Ret P n_spec_l04Make [.bool (decide (n < 0)), .slice p m c] w fun v w' => ∃ b p n' c, v = .agg ⟨[.bool b, .slice p n' c]⟩ ∧ Reps w' [.bool b, .slice p n' c] (enc (n * d)) ∧ intOk (enc (n * d)) = true ∧ Ext w w' := by
  have hlen := h.1
  refine (spec_l04Make_c h (digs_limbs _)).mono ?_
  rintro v w' ⟨b, p', n', c', hv, hb, ho, y⟩
  have ez : val (digs ((n.natAbs : Int) * d).toNat) = (n.natAbs : Int) * d := val_digsI (Int.mul_nonneg (by omega) (by omega))
  rw [ez] at hb ho
  have ecap : capL (digs ((n.natAbs : Int) * d).toNat) = digs ((n.natAbs : Int) * d).toNat := by unfold capL; rw [if_pos (by omega)]
  rw [ecap] at hb ho
  have ea : (n * d).natAbs = ((n.natAbs : Int) * d).toNat := by
    rw [Int.natAbs_mul, Int.natAbs_natCast, ← Int.natCast_mul, Int.toNat_natCast]
  have eb : (decide (n < 0) && !(digs ((n.natAbs : Int) * d).toNat).isEmpty) = decide (n * d < 0) := by
    rw [isEmpty_digs, ← ea]
    by_cases hn : n < 0
    · have h1 : n * (d : Int) < 0 := Int.mul_neg_of_neg_of_pos hn (by omega)
      have h2 : (n * (d : Int)).natAbs ≠ 0 := by omega
      simp [hn, h1, h2]
    · have h1 : ¬ n * (d : Int) < 0 := Int.not_lt.2 (Int.mul_nonneg (by omega) (by omega))
      simp [hn, h1]
  refine ⟨b, p', n', c', hv, ?_, ?_, y⟩
  · rw [enc, ea, ← eb, ← hb]
    exact ⟨rfl, ⟨_, _, _, rfl, ho.ints⟩, trivial⟩
  · have := icap_ok (n * d)
    rwa [icap_fit (by rw [ea]; omega)] at this
theorem prod_len {x y : Nat} {i j : Nat} (hx : (digs x).length ≤ i) (hy : (digs y).length ≤ j) : (digs (x * y)).length ≤ i + j := by
  apply digs_len
  have h1 := val_lt (digs_limbs x); have h2 := val_lt (digs_limbs y)
  rw [val_digs] at h1 h2
  have h1' : x < 1000000000 ^ i := by
    have : ((x : Nat) : Int) < ((1000000000 ^ (digs x).length : Nat) : Int) := by simpa using h1
    exact Nat.lt_of_lt_of_le (Int.ofNat_lt.1 this) (Nat.pow_le_pow_right (by decide) hx)
  have h2' : y < 1000000000 ^ j := by
    have : ((y : Nat) : Int) < ((1000000000 ^ (digs y).length : Nat) : Int) := by simpa using h2
    exact Nat.lt_of_lt_of_le (Int.ofNat_lt.1 this) (Nat.pow_le_pow_right (by decide) hy)
  rw [Nat.pow_add]
  exact Nat.mul_lt_mul'' h1' h2'
end Go.Proofs.YtmajiilehdpdmaaGreat

namespace Go.Proofs.YtmajiilehdpdmaaGreat
open Go Go.Proofs.YtmajiilehdpdmaaGreat.Sx
set_option linter.unusedVariables false
set_option linter.unusedSimpArgs false
def rat0 : List D0 := [.bool false, .ints [], .ints []]
def redN (n : Int) (d : Nat) : Int := if n < 0 then -((n.natAbs / Nat.gcd n.natAbs d : Nat) : Int) else ((n.natAbs / Nat.gcd n.natAbs d : Nat) : Int)
def redD (n : Int) (d : Nat) : Nat := d / Nat.gcd n.natAbs d
def redOk (n : Int) (d : Nat) : Bool := decide ((digs (n.natAbs / Nat.gcd n.natAbs d)).length ≤ 18) && decide ((digs (d / Nat.gcd n.natAbs d)).length ≤ 18)
def redR (n : Int) (d : Nat) : List D0 := if redOk n d then rmk (redN n d) (redD n d) else rat0
theorem redR_code (n : Int) (d : Nat) : (redR n d).map D0.code = [.bool, .ints, .ints] := by unfold redR; split <;> rfl
theorem redN_abs (n : Int) (d : Nat) : (redN n d).natAbs = n.natAbs / Nat.gcd n.natAbs d := by
  unfold redN
  generalize n.natAbs / Nat.gcd n.natAbs d = q
  split <;> omega
theorem enc_redN (n : Int) (d : Nat) : enc (redN n d) = mkS (decide (n < 0)) (digs (n.natAbs / Nat.gcd n.natAbs d)) := by
  unfold redN
  by_cases h : n < 0
  · rw [if_pos h, decide_eq_true h, mkS_neg]
  · rw [if_neg h, decide_eq_false h, mkS_pos]
theorem gcd_pos_right {m d : Nat} (hd : 0 < d) : 0 < Nat.gcd m d := Nat.gcd_pos_of_pos_right m hd
theorem redD_pos {n : Int} {d : Nat} (hd : 0 < d) : 0 < redD n d := Nat.div_pos (Nat.le_of_dvd hd (Nat.gcd_dvd_right _ _)) (gcd_pos_right hd)
theorem red_coprime {n : Int} {d : Nat} (hd : 0 < d) : Nat.gcd (redN n d).natAbs (redD n d) = 1 := by
  rw [redN_abs, redD, Nat.gcd_div (Nat.gcd_dvd_left _ _) (Nat.gcd_dvd_right _ _)]
  exact Nat.div_self (gcd_pos_right hd)
theorem redR_ok {n : Int} {d : Nat} (hd : 0 < d) (h : redOk n d = true) : ratOk (redR n d) = true := by
  have h' := h
  simp only [redOk, Bool.and_eq_true, decide_eq_true_eq] at h'
  rw [redR, if_pos h]
  exact ratOk_rmk (redD_pos hd) (red_coprime hd) (by rw [redN_abs]; exact h'.1) h'.2
theorem redOk_small {n : Int} {d : Nat} (h1 : (digs n.natAbs).length ≤ 18) (h2 : (digs d).length ≤ 18) : redOk n d = true := by
  simp only [redOk, Bool.and_eq_true, decide_eq_true_eq]
  exact ⟨Nat.le_trans (digs_mono_len (Nat.div_le_self _ _)) h1, Nat.le_trans (digs_mono_len (Nat.div_le_self _ _)) h2⟩
def modeAway (m : Int) (neg : Bool) (half : Int) (odd : Bool) : Bool :=
 if m = 0 then false else if m = 1 then true else if m = 2 then neg else if m = 3 then !neg else if m = 4 then decide (0 < half) else if m = 5 then decide (0 ≤ half) else decide (0 < half) || (decide (half = 0) && odd)
def roundM (n : Int) (d : Nat) (m : Int) : Nat :=
 if n.natAbs % d ≠ 0 ∧ modeAway m (decide (n < 0)) (cmpL (digs (n.natAbs % d + n.natAbs % d)) (digs d)) (decide (n.natAbs / d % 2 = 1)) = true then n.natAbs / d + 1 else n.natAbs / d
def rround (n : Int) (d : Nat) (m : Int) : Int := if n < 0 then -((roundM n d m : Nat) : Int) else ((roundM n d m : Nat) : Int)
end Go.Proofs.YtmajiilehdpdmaaGreat

namespace Go.Proofs.YtmajiilehdpdmaaGreat
open Go Go.Proofs.YtmajiilehdpdmaaGreat.Sx
set_option linter.unusedVariables false
set_option linter.unusedSimpArgs false
def imul (d e : List D0) : List D0 := if intOk d && intOk e then icap (ival d * ival e) else enc 0
theorem enc_nat (n : Nat) : enc (n : Int) = [.bool false, .ints (digs n)] := (mkS_pos n).symm
theorem enc_ok {z : Int} (h : (digs z.natAbs).length ≤ 50) : intOk (enc z) = true := by rw [← icap_fit h]; exact icap_ok z
theorem ten_len {k : Nat} (h : k ≤ 30) : (digs (10 ^ k)).length ≤ 4 := by
  apply digs_len
  have : (10 : Nat) ^ k ≤ 10 ^ 30 := Nat.pow_le_pow_right (by decide) h
  exact Nat.lt_of_le_of_lt this (by decide)
theorem prod_enc {b c : Bool} {z y : List Int} (hz : Limbs z) (hy : Limbs y) : mkS (!(b == c)) (capL (digs (val z * val y).toNat)) = icap (ival [.bool b, .ints z] * ival [.bool c, .ints y]) := by
  have h1 := val_nonneg hz; have h2 := val_nonneg hy
  have hp : 0 ≤ val z * val y := Int.mul_nonneg h1 h2
  obtain ⟨Q, hQ⟩ : ∃ Q, Q = val z * val y := ⟨_, rfl⟩
  rw [← hQ] at hp ⊢
  apply mkS_digs
  · cases b <;> cases c <;> simp only [ival, if_true, Bool.false_eq_true, if_false, Int.neg_mul, Int.mul_neg, Int.neg_neg, ← hQ] <;> omega
  · intro h0
    cases b <;> cases c <;> simp only [ival, if_true, Bool.false_eq_true, if_false, Int.neg_mul, Int.mul_neg, Int.neg_neg, ← hQ] <;> simp <;> omega
theorem spec_IntMul_c {w : World} {xs ys : List Value} {dx dy : List D0} (h : Reps w xs dx) (k : Reps w ys dy) (hc : dx.map D0.code = [.bool, .ints]) (kc : dy.map D0.code = [.bool, .ints]) :
    Ret P n_spec_IntMul [.agg ⟨xs⟩, .agg ⟨ys⟩] w fun v w' => ∃ vs' f, v = .agg ⟨vs'⟩ ∧ Owns w' w.heap.size vs' (imul dx dy) f ∧ f.Nodup ∧ Ext w w' := by
  have hr := h; have kr := k
  obtain ⟨a0, a1p, a1n, a1c, a1z, rfl, rfl, ha⟩ := open_Signed h hc
  obtain ⟨b0, b1p, b1n, b1c, b1z, rfl, rfl, hb⟩ := open_Signed k kc
  refine spec_IntMul_ret ?_
  unfold spec_IntMul
  intro r w1 hn1 r1 w2 hn2 r2 w3 hn3
  have X := (hn1.ext.trans hn2.ext).trans hn3.ext
  have e1 := hn1.r_eq; have e2 := hn2.r_eq; have e3 := hn3.r_eq; have s1 := hn1.size; have s2 := hn2.size; have s3 := hn3.size
  have k0 := (hn1.blk.ext hn2.ext).ext hn3.ext; have k1 := hn2.blk.ext hn3.ext; have k2 := hn3.blk
  have bad : ∀ W, Ext w3 W → (intOk [.bool a0, .ints a1z] && intOk [.bool b0, .ints b1z]) = false → ∃ wv_8, Stores P T_impl_Signed ⟨r2, 0, none⟩ (.agg #[(.bool false), (.slice none 0 0)]) W wv_8 ∧
      ∃ (r0 : Bool) (r1_p : Option Addr) (r1_n : Nat) (r1_c : Nat), Loads P T_impl_Signed ⟨r2, 0, none⟩ (.agg #[(.bool r0), (.slice r1_p r1_n r1_c)]) wv_8 ∧ (fun (v : Value) (w' : World) => ∃ vs' f, v = .agg ⟨vs'⟩ ∧ Owns w' w.heap.size vs' (imul [.bool a0, .ints a1z] [.bool b0, .ints b1z]) f ∧ f.Nodup ∧ Ext w w') (.agg #[(.bool r0), (.slice r1_p r1_n r1_c)]) wv_8 := by
    intro W hW hno
    obtain ⟨w5, st, hb5, ch, sz⟩ := (k2.ext hW).storeA0 (P := P) (t := T_impl_Signed) (xs := [.bool false, .slice none 0 0]) (by kernel_rfl) rfl (by simp [Value.oneCell'])
    refine ⟨w5, st, _, _, _, _, hb5.loadA0 (by kernel_rfl), _, _, rfl, ?_, nodup_opt none, (X.trans hW).chg ch (by simp; omega)⟩
    have : imul [.bool a0, .ints a1z] [.bool b0, .ints b1z] = [.bool false, .ints []] := by rw [imul, hno, ← enc0]; rfl
    rw [this]
    exact Owns.int2 (z := []) (Own.nil w5 _ T_int 1 : Own w5 w.heap.size T_int 1 none 0 0 (([] : List Int).map (Value.int .i64)))
  refine ⟨_, _, _, _, k0.loadA0 (by kernel_rfl), ?_⟩
  refine Ret.at (spec_IntOk_c (hr.ext X) rfl) ?_
  rintro v w4 ⟨hv, y4⟩
  subst hv
  refine ⟨_, rfl, ifN (fun hno => ifT (bad w4 y4 (by simp [hno]))) (fun hok1 => ?_)⟩
  refine ⟨_, _, _, _, (k1.ext y4).loadA0 (by kernel_rfl), ?_⟩
  refine Ret.at (spec_IntOk_c (kr.ext (X.trans y4)) rfl) ?_
  rintro v w5 ⟨hv, y5⟩
  subst hv
  refine ⟨_, rfl, ifN (fun hno => bad w5 (y4.trans y5) (by simp [hno])) (fun hok2 => ?_)⟩
  have D := Ext.drew w5
  have X5 := ((X.trans y4).trans y5).trans D
  have q0 := (k0.ext y4).ext y5; have q1 := (k1.ext y4).ext y5; have q2 := ((k2.ext y4).ext y5).ext D
  have la := (intOk_enc hok1).2
  obtain ⟨_, _, h1, c1, l1⟩ := la
  simp only [List.cons.injEq, D0.bool.injEq, D0.ints.injEq, and_true] at h1
  obtain ⟨rfl, rfl⟩ := h1
  obtain ⟨_, _, h2, c2, l2⟩ := (intOk_enc hok2).2
  simp only [List.cons.injEq, D0.bool.injEq, D0.ints.injEq, and_true] at h2
  obtain ⟨rfl, rfl⟩ := h2
  have ln1 := ha.1; have ln2 := hb.1
  refine ⟨_, fun W hW => (q0.ext (D.trans hW)).loadAt 0 rfl (by kernel_rfl) rfl, _, fun W hW => (q1.ext (D.trans hW)).loadAt 0 rfl (by kernel_rfl) rfl, _, _, _, fun W hW => (q0.ext (D.trans hW)).loadAt 1 rfl (by kernel_rfl) rfl, _, _, _, fun W hW => (q1.ext (D.trans hW)).loadAt 1 rfl (by kernel_rfl) rfl, ?_⟩
  refine Ret.at (spec_l02Mul_c (ha.ext X5) (hb.ext X5) c1.1 c2.1 (by omega) (by omega)) ?_
  rintro v w6 ⟨p, n, c, hv, ho, y6⟩
  subst hv
  refine ⟨_, _, _, rfl, y6, ?_⟩
  refine Ret.at (spec_l04Make_c ho.ints (digs_limbs _)) ?_
  rintro v w7 ⟨b, q, qn, qc, hv, hbb, ho2, y7⟩
  subst hv
  have l3 := X5.le; have l6 := y6.le
  obtain ⟨w8, st, hb8, ch, sz⟩ := ((q2.ext y6).ext y7).storeA0 (P := P) (t := T_impl_Signed) (xs := [.bool b, .slice q qn qc]) (by kernel_rfl) rfl (by simp [Value.oneCell'])
  have ow := Owns.int2 (b := b) ho2
  rw [hbb] at ow
  rw [val_digs, show ((((val a1z * val b1z).toNat : Nat) : Int)).toNat = (val a1z * val b1z).toNat from rfl] at ow
  have ow2 : Owns w7 w6.heap.size [.bool b, .slice q qn qc] (imul [.bool a0, .ints a1z] [.bool b0, .ints b1z]) (q.map (·.block)).toList := by
    rw [imul, hok1, hok2]
    simp only [Bool.and_self, if_true]
    rw [← prod_enc c1.1 c2.1, hbb, val_digs]
    exact ow
  have l35 := y4.le; have l45 := y5.le; have lD := D.le
  exact ⟨_, _, _, _, rfl, w8, st, _, _, _, _, hb8.loadA0 (by kernel_rfl), _, _, rfl, (ow2.chg1 ch (by omega)).mono (by omega), nodup_opt q, ((X5.trans y6).trans y7).chg ch (by simp; omega)⟩
theorem spec_l07Ten_c {w : World} {k : Int} (h0 : 0 ≤ k) (h1 : k ≤ 449) :
    Ret P n_spec_l07Ten [.int .i64 k] w fun v w' => ∃ vs' f, v = .agg ⟨vs'⟩ ∧ Owns w' w.heap.size vs' (enc ((10 ^ k.toNat : Nat) : Int)) f ∧ f.Nodup ∧ Ext w w' := by
  refine spec_l07Ten_ret ?_
  unfold spec_l07Ten
  intro r w1 hn1
  have e1 := hn1.r_eq; have s1 := hn1.size
  refine Ret.at (spec_NatTen_c h0 h1) ?_
  rintro v w2 ⟨p, n, c, hv, ho, y2⟩
  subst hv
  obtain ⟨w3, st, hb3, ch, sz⟩ := (hn1.blk.ext y2).storeA0 (P := P) (t := T_impl_Signed) (xs := [.bool false, .slice p n c]) (by kernel_rfl) rfl (by simp [Value.oneCell'])
  refine ⟨_, _, _, rfl, w3, st, _, _, _, _, hb3.loadA0 (by kernel_rfl), _, _, rfl, ?_, nodup_opt p, (hn1.ext.trans y2).chg ch (by simp; omega)⟩
  rw [enc_nat]
  exact ((Owns.int2 ho).chg1 ch (by omega)).mono (by omega)
theorem spec_l07Both_c {w : World} {xs ys : List Value} {b c : Bool} {z y : List Int} {s t : Int} (h : Reps w xs [.bool b, .ints z, .int s]) (k : Reps w ys [.bool c, .ints y, .int t]) (hok1 : decOk [.bool b, .ints z, .int s] = true) (hok2 : decOk [.bool c, .ints y, .int t] = true) :
    Ret P n_spec_l07Both [.agg ⟨xs⟩, .agg ⟨ys⟩] w fun v w' => ∃ us vs, v = .tuple #[.agg ⟨us⟩, .agg ⟨vs⟩, .int .i64 (max s t)] ∧ Reps w' us (enc (ival [.bool b, .ints z] * 10 ^ (max s t - s).toNat)) ∧ Reps w' vs (enc (ival [.bool c, .ints y] * 10 ^ (max s t - t).toNat)) ∧ Ext w w' := by
  have hr := h; have kr := k
  obtain ⟨a0, a1p, a1n, a1c, a1z, a2, rfl, hd, ha⟩ := open_Dec h rfl
  obtain ⟨b0, b1p, b1n, b1c, b1z, b2, rfl, he, hb⟩ := open_Dec k rfl
  cases hd; cases he
  obtain ⟨o1, l1, s1, t1⟩ := decOk_spec hok1
  obtain ⟨o2, l2, s2, t2⟩ := decOk_spec hok2
  refine spec_l07Both_ret ?_
  unfold spec_l07Both
  intro r w1 hn1 r1 w2 hn2 r2 w3 hn3 r3 w4 hn4
  have X := ((hn1.ext.trans hn2.ext).trans hn3.ext).trans hn4.ext
  have e1 := hn1.r_eq; have e2 := hn2.r_eq; have e3 := hn3.r_eq; have e4 := hn4.r_eq; have z1 := hn1.size; have z2 := hn2.size; have z3 := hn3.size; have z4 := hn4.size
  have k0 := ((hn1.blk.ext hn2.ext).ext hn3.ext).ext hn4.ext; have k1 := (hn2.blk.ext hn3.ext).ext hn4.ext; have k2 := hn3.blk.ext hn4.ext; have k3 := hn4.blk
  have j : ∀ m : Int, m = max s t → spec_l07Both_j0 r r1 r2 r3 m w4 fun v w' => ∃ us vs, v = .tuple #[.agg ⟨us⟩, .agg ⟨vs⟩, .int .i64 (max s t)] ∧ Reps w' us (enc (ival [.bool b, .ints z] * 10 ^ (max s t - s).toNat)) ∧ Reps w' vs (enc (ival [.bool c, .ints y] * 10 ^ (max s t - t).toNat)) ∧ Ext w w' := by
    intro m hm
    subst hm
    unfold spec_l07Both_j0
    have D := Ext.drew w4
    have XD := X.trans D
    have p1 := scaled_len o1 l1 (e := (max s t - s).toNat) (by omega)
    have p2 := scaled_len o2 l2 (e := (max s t - t).toNat) (by omega)
    have q1 := ten_len (k := (max s t - s).toNat) (by omega)
    have q2 := ten_len (k := (max s t - t).toNat) (by omega)
    have lD := D.le
    refine ⟨_, _, _, _, fun W hW => (k0.ext (D.trans hW)).loadAAt 0 [.bool b, .slice a1p a1n a1c] rfl (by kernel_rfl) rfl, _, fun W hW => (k0.ext (D.trans hW)).loadAt 2 rfl (by kernel_rfl) rfl, exW ⟨by omega, by omega⟩ ?_⟩
    refine Ret.at (spec_l07Ten_c (by omega) (by omega)) ?_
    rintro v w5 ⟨vs5, f5, hv, ho5, _, y5⟩
    subst hv
    obtain ⟨g0, gp, gn, gc, gz, rfl, hg, hgi⟩ := open_Signed ho5.reps (enc_code _)
    refine ⟨_, _, _, _, rfl, y5, ?_⟩
    have hx : Reps w4.drew [.bool b, .slice a1p a1n a1c] [.bool b, .ints z] := ⟨rfl, ⟨_, _, _, rfl, ha.ext XD⟩, trivial⟩
    have hy : Reps w4.drew [.bool c, .slice b1p b1n b1c] [.bool c, .ints y] := ⟨rfl, ⟨_, _, _, rfl, hb.ext XD⟩, trivial⟩
    refine Ret.at (spec_IntMul_c (hx.ext y5) ho5.reps rfl (enc_code _)) ?_
    rintro v w6 ⟨vs6, f6, hv, ho6, _, y6⟩
    subst hv
    have ee : ∀ (d : List D0) (m : Nat), intOk d = true → (digs (10 ^ m)).length ≤ 4 → (digs (ival d * 10 ^ m).natAbs).length ≤ 10 → imul d (enc ((10 ^ m : Nat) : Int)) = enc (ival d * 10 ^ m) := by
      intro d m hd h1 h2
      have e : ((10 ^ m : Nat) : Int) = (10 : Int) ^ m := by simp
      rw [imul, hd, enc_ok (by rw [Int.natAbs_natCast]; omega)]
      simp only [Bool.and_self, if_true]
      rw [ival_enc, e]
      exact icap_fit (by omega)
    rw [ee _ _ o1 q1 p1] at ho6
    obtain ⟨g0, gp, gn, gc, gz, rfl, hg, hgi⟩ := open_Signed ho6.reps (enc_code _)
    refine ⟨_, _, _, _, rfl, y6, _, _, _, _, fun W hW => (k1.ext (D.trans hW)).loadAAt 0 [.bool c, .slice b1p b1n b1c] rfl (by kernel_rfl) rfl, _, fun W hW => (k1.ext (D.trans hW)).loadAt 2 rfl (by kernel_rfl) rfl, exW ⟨by omega, by omega⟩ ?_⟩
    refine Ret.at (spec_l07Ten_c (by omega) (by omega)) ?_
    rintro v w7 ⟨vs7, f7, hv, ho7, _, y7⟩
    subst hv
    obtain ⟨i0, ip, i_n, ic, iz, rfl, hi, hii⟩ := open_Signed ho7.reps (enc_code _)
    refine ⟨_, _, _, _, rfl, y7, ?_⟩
    refine Ret.at (spec_IntMul_c (((hy.ext y5).ext y6).ext y7) ho7.reps rfl (enc_code _)) ?_
    rintro v w8 ⟨vs8, f8, hv, ho8, _, y8⟩
    subst hv
    rw [ee _ _ o2 q2 p2] at ho8
    obtain ⟨i0, ip, i_n, ic, iz, rfl, hi, hii⟩ := open_Signed ho8.reps (enc_code _)
    have l5 := y5.le; have l6 := y6.le; have l7 := y7.le; have l8 := y8.le
    have Y := (((D.trans y5).trans y6).trans y7).trans y8
    obtain ⟨w9, st9, hb9, ch9, sz9⟩ := (k2.ext Y).storeA0 (P := P) (t := T_impl_Signed) (xs := [.bool g0, .slice gp gn gc]) (by kernel_rfl) rfl (by simp [Value.oneCell'])
    obtain ⟨w10, st10, hb10, ch10, sz10⟩ := ((k3.ext Y).chg ch9 (by simp; omega)).storeA0 (P := P) (t := T_impl_Signed) (xs := [.bool i0, .slice ip i_n ic]) (by kernel_rfl) rfl (by simp [Value.oneCell'])
    have r6 := ((((ho6.ext y7).ext y8).chg1 ch9 (by omega)).chg1 ch10 (by omega)).reps
    have r8 := ((ho8.chg1 ch9 (by omega)).chg1 ch10 (by omega)).reps
    exact ⟨_, _, _, _, rfl, w9, st9, w10, st10, _, _, _, _, (hb9.chg ch10 (by simp; omega)).loadA0 (by kernel_rfl), _, _, _, _, hb10.loadA0 (by kernel_rfl), _, _, rfl, r6, r8, ((X.trans Y).chg ch9 (by simp; omega)).chg ch10 (by simp; omega)⟩
  refine ⟨_, k0.loadAt 2 rfl (by kernel_rfl) rfl, _, k1.loadAt 2 rfl (by kernel_rfl) rfl, ifD (fun hlt => ⟨_, k1.loadAt 2 rfl (by kernel_rfl) rfl, j _ (by omega)⟩) (fun hge => j _ (by omega))⟩
theorem spec_DecCmp_c {w : World} {xs ys : List Value} {dx dy : List D0} (h : Reps w xs dx) (k : Reps w ys dy) (hc : dx.map D0.code = [.bool, .ints, .int]) (kc : dy.map D0.code = [.bool, .ints, .int]) :
    Ret P n_spec_DecCmp [.agg ⟨xs⟩, .agg ⟨ys⟩] w fun v w' => v = .int .i64 (dcmp dx dy) ∧ Ext w w' := by
  have hr := h; have kr := k
  obtain ⟨a0, a1p, a1n, a1c, a1z, a2, rfl, rfl, ha⟩ := open_Dec h hc
  obtain ⟨b0, b1p, b1n, b1c, b1z, b2, rfl, rfl, hb⟩ := open_Dec k kc
  refine spec_DecCmp_ret ?_
  unfold spec_DecCmp
  intro r w1 hn1 r1 w2 hn2
  have X := hn1.ext.trans hn2.ext
  have k0 := hn1.blk.ext hn2.ext; have k1 := hn2.blk
  have bad : ∀ W, Ext w2 W → (decOk [.bool a0, .ints a1z, .int a2] && decOk [.bool b0, .ints b1z, .int b2]) = false → Value.int .i64 0 = .int .i64 (dcmp [.bool a0, .ints a1z, .int a2] [.bool b0, .ints b1z, .int b2]) ∧ Ext w W := fun W hW hno => ⟨by simp only [dcmp, hno]; rfl, X.trans hW⟩
  refine ⟨_, _, _, _, _, k0.loadA0 (by kernel_rfl), ?_⟩
  refine Ret.at (spec_DecOk_c (hr.ext X) rfl) ?_
  rintro v w3 ⟨hv, y3⟩
  subst hv
  refine ⟨_, rfl, ifN (fun hno => ifT (bad w3 y3 (by simp [hno]))) (fun hok1 => ?_)⟩
  refine ⟨_, _, _, _, _, (k1.ext y3).loadA0 (by kernel_rfl), ?_⟩
  refine Ret.at (spec_DecOk_c (kr.ext (X.trans y3)) rfl) ?_
  rintro v w4 ⟨hv, y4⟩
  subst hv
  refine ⟨_, rfl, ifN (fun hno => bad w4 (y3.trans y4) (by simp [hno])) (fun hok2 => ?_)⟩
  obtain ⟨o1, l1, s1, t1⟩ := decOk_spec hok1
  obtain ⟨o2, l2, s2, t2⟩ := decOk_spec hok2
  have X4 := (X.trans y3).trans y4
  unfold spec_DecCmp_j0
  refine ⟨_, _, _, _, _, ((k0.ext y3).ext y4).loadA0 (by kernel_rfl), _, _, _, _, _, ((k1.ext y3).ext y4).loadA0 (by kernel_rfl), ?_⟩
  refine Ret.at (spec_l07Both_c (hr.ext X4) (kr.ext X4) hok1 hok2) ?_
  rintro v w5 ⟨us, vs, hv, g1, g2, y5⟩
  subst hv
  have g1' := g1; have g2' := g2
  obtain ⟨g0, gp, gn, gc, gz, rfl, hg, hgi⟩ := open_Signed g1 (enc_code _)
  obtain ⟨i0, ip, i_n, ic, iz, rfl, hi, hii⟩ := open_Signed g2 (enc_code _)
  refine ⟨_, _, _, _, _, _, _, _, _, rfl, ?_⟩
  intro r2 w6 hn6 r3 w7 hn7
  have e6 := hn6.r_eq; have e7 := hn7.r_eq; have z6 := hn6.size; have z7 := hn7.size
  obtain ⟨w8, st8, hb8, ch8, sz8⟩ := (hn6.blk.ext hn7.ext).storeA0 (P := P) (t := T_impl_Signed) (xs := [.bool g0, .slice gp gn gc]) (by kernel_rfl) rfl (by simp [Value.oneCell'])
  obtain ⟨w9, st9, hb9, ch9, sz9⟩ := (hn7.blk.chg ch8 (by simp; omega)).storeA0 (P := P) (t := T_impl_Signed) (xs := [.bool i0, .slice ip i_n ic]) (by kernel_rfl) rfl (by simp [Value.oneCell'])
  have Y := (((hn6.ext.trans hn7.ext).chg ch8 (by simp; omega)).chg ch9 (by simp; omega))
  refine ⟨w8, st8, w9, st9, _, _, _, _, (hb8.chg ch9 (by simp; omega)).loadA0 (by kernel_rfl), _, _, _, _, hb9.loadA0 (by kernel_rfl), ?_⟩
  refine Ret.at (spec_IntCmp_c (g1'.ext Y) (g2'.ext Y) (enc_code _) (enc_code _)) ?_
  rintro v w10 ⟨hv, y10⟩
  subst hv
  refine ⟨_, rfl, ?_, ((X4.trans y5).trans Y).trans y10⟩
  have p1 := scaled_len o1 l1 (e := (max a2 b2 - a2).toNat) (by omega)
  have p2 := scaled_len o2 l2 (e := (max a2 b2 - b2).toNat) (by omega)
  rw [icmp_enc (enc_ok (by omega)) (enc_ok (by omega))]
  simp only [dcmp, hok1, hok2, Bool.and_self, if_true]
end Go.Proofs.YtmajiilehdpdmaaGreat

namespace Go.Proofs.YtmajiilehdpdmaaGreat
open Go Go.Proofs.YtmajiilehdpdmaaGreat.Sx
set_option linter.unusedVariables false
set_option linter.unusedSimpArgs false
def dnn (m : Nat) (s : Int) : List D0 := [.bool false, .ints (digs m), .int s]
theorem inn_ok {m : Nat} (h : (digs m).length ≤ 50) : intOk [.bool false, .ints (digs m)] = true := by
  simp only [intOk, natOk_spec.2 ⟨digs_canon m, h⟩, Bool.not_false, Bool.true_or, Bool.and_self]
theorem dnn_ok {m : Nat} {s : Int} (h : (digs m).length ≤ 6) (hs : 0 ≤ s ∧ s ≤ 30) : decOk (dnn m s) = true := by
  simp only [decOk, dnn, inn_ok (show (digs m).length ≤ 50 by omega), decide_eq_true h, decide_eq_true hs, Bool.and_self]
theorem own_out {w : World} {B : Nat} {e : TypeId} {size : Nat} {p : Option Addr} {n c : Nat} {xs : List Value} (h : Own w B e size p n c xs) : ∀ b, p.map (·.block) = some b → B ≤ b := fun b hb =>
  (World.ownsRow.lt h b (by cases p <;> simp_all [Value.ownBlock])).1
end Go.Proofs.YtmajiilehdpdmaaGreat

namespace Go.Proofs.YtmajiilehdpdmaaGreat
open Go Go.Proofs.YtmajiilehdpdmaaGreat.Sx
set_option linter.unusedVariables false
set_option linter.unusedSimpArgs false
theorem digs_pos_len {m : Nat} : 0 < (digs m).length ↔ m ≠ 0 := by
  constructor
  · intro h e
    rw [e, digs_zero] at h
    simp at h
  · intro h
    rw [digs_pos h]
    simp
theorem val_div (m k : Nat) : (val (digs m) / val (digs k)).toNat = m / k := by rw [val_digs, val_digs]; exact ediv_toNat m k
theorem val_mod (m k : Nat) : (val (digs m) % val (digs k)).toNat = m % k := by rw [val_digs, val_digs]; exact emod_toNat m k
end Go.Proofs.YtmajiilehdpdmaaGreat

namespace Go.Proofs.YtmajiilehdpdmaaGreat
open Go Go.Proofs.YtmajiilehdpdmaaGreat.Sx
set_option linter.unusedVariables false
set_option linter.unusedSimpArgs false
theorem agg_end {t : TypeId} {w W : World} {r : Nat} {e : TypeId} {old xs : List Value} {d : List D0} {f : List Nat} {B : Nat} (hb : Blk W r e old) (X : Ext w W) (hr : w.heap.size ≤ r)
    (ho : Owns W B xs d f) (ht : aggT P t xs.length = true) (hlen : xs.length = old.length) (hrB : r < B) (hwB : w.heap.size ≤ B) :
    ∃ W', Stores P t ⟨r, 0, none⟩ (.agg ⟨xs⟩) W W' ∧ Loads P t ⟨r, 0, none⟩ (.agg ⟨xs⟩) W' ∧ Owns W' w.heap.size xs d f ∧ Ext w W' ∧ Chg [r] W W' ∧ Blk W' r e xs := by
  obtain ⟨W', st, hb', ch, _⟩ := hb.storeA0 (P := P) (t := t) (xs := xs) ht hlen ho.reps.cells1
  exact ⟨W', st, hb'.loadA0 ht, (ho.chg1 ch hrB).mono hwB, X.chg ch (by simp; exact hr), ch, hb'⟩
theorem own_rat0 (W : World) (B : Nat) : Owns W B [.bool false, .slice none 0 0, .slice none 0 0] rat0 [] :=
  Owns.append (Owns.bool W B false) (Owns.append (Owns.ints (zs := []) (Own.nil W B T_int 1)) (Owns.ints (zs := []) (Own.nil W B T_int 1)))
theorem redR_no {n : Int} {d : Nat} (h : redOk n d = false) : redR n d = rat0 := by rw [redR, h]; rfl
theorem redR_yes {n : Int} {d : Nat} (h : redOk n d = true) : redR n d = rmk (redN n d) (redD n d) := by rw [redR, if_pos h]
theorem own_rmk {W : World} {B : Nat} {b : Bool} {p q : Option Addr} {n c m c2 : Nat} {N : Int} {D : Nat} {f : List Nat} (h : Owns W B [.bool b, .slice p n c] (enc N) f) (k : Own W B T_int 1 q m c2 ((digs D).map (Value.int .i64))) : Owns W B [.bool b, .slice p n c, .slice q m c2] (rmk N D) (f ++ (q.map (·.block)).toList) := by
  rw [rmk_enc]; exact Owns.append h (Owns.ints k)
theorem impl_reduce_c {w : World} {xs : List Value} {n : Int} {d : Nat} {p : Option Addr} {m c : Nat} (h : Reps w xs (enc n)) (k : IntsR w p m c (digs d)) (hd : 0 < d) (hl : (digs n.natAbs).length ≤ 1000) (hm : m ≤ 1000) :
    Ret P n_impl_reduce [.agg ⟨xs⟩, .slice p m c] w fun v w' => ∃ vs f, v = .tuple #[.agg ⟨vs⟩, .bool (redOk n d)] ∧ Owns w' w.heap.size vs (redR n d) f ∧ f.Nodup ∧ Ext w w' := by
  obtain ⟨a0, ap, an, ac, az, rfl, hda, ha⟩ := open_Signed h (enc_code _)
  simp only [enc, List.cons.injEq, D0.bool.injEq, D0.ints.injEq, and_true] at hda
  obtain ⟨rfl, rfl⟩ := hda
  have hla := ha.1; have hlk := k.1
  refine impl_reduce_ret ?_
  unfold impl_reduce
  intro r w1 hn1 r1 w2 hn2
  have e1 := hn1.r_eq; have e2 := hn2.r_eq; have z1 := hn1.size; have z2 := hn2.size
  have X := hn1.ext.trans hn2.ext
  have q0 := hn1.blk.ext hn2.ext
  refine ⟨_, _, _, q0.loadAt 1 rfl (by kernel_rfl) rfl, ?_⟩
  refine Ret.at (impl_natGcd_c (ha.ext X) (k.ext X) (by omega) (by omega)) ?_
  rintro v w3 ⟨p3, n3, c3, hv, og, y3⟩
  subst hv
  have G := og.ints
  have gpos : 0 < Nat.gcd n.natAbs d := gcd_pos_right hd
  have lg := G.1
  have hg3 : 0 < n3 := by have := digs_pos_len.2 (show Nat.gcd n.natAbs d ≠ 0 by omega); omega
  have hg4 : n3 ≤ 1000 := by have := digs_mono_len (Nat.le_of_dvd hd (Nat.gcd_dvd_right n.natAbs d)); omega
  refine ⟨_, _, _, rfl, _, _, _, (q0.ext y3).loadAt 1 rfl (by kernel_rfl) rfl, ?_⟩
  refine Ret.at (impl_natDiv_c (ha.ext (X.trans y3)) G (digs_canon _) (digs_canon _) hg3 (by omega) (by omega)) ?_
  rintro v w4 ⟨p4, n4, c4, p5, n5, c5, hv, o4, _, _, y4⟩
  subst hv
  rw [val_div] at o4
  refine ⟨_, _, _, _, _, _, rfl, ?_⟩
  refine Ret.at (impl_natDiv_c (k.ext ((X.trans y3).trans y4)) (G.ext y4) (digs_canon _) (digs_canon _) hg3 (by omega) (by omega)) ?_
  rintro v w5 ⟨p6, n6, c6, p7, n7, c7, hv, o6, _, _, y5⟩
  subst hv
  rw [val_div] at o6
  have l4 := o4.ints.1; have l6 := o6.ints.1
  have Y := y3.trans (y4.trans y5)
  have q0 := q0.ext Y; have q1 := hn2.blk.ext Y
  have ly3 := y3.le; have ly4 := y4.le; have ly5 := y5.le
  have hok : redOk n d = (decide (n4 ≤ 18) && decide (n6 ≤ 18)) := by rw [redOk, l4, l6]
  have bad : redOk n d = false → ∃ W', Stores P T_impl_Rat ⟨r1, 0, none⟩ (.agg ⟨[.bool false, .slice none 0 0, .slice none 0 0]⟩) w5 W' ∧ Loads P T_impl_Rat ⟨r1, 0, none⟩ (.agg ⟨[.bool false, .slice none 0 0, .slice none 0 0]⟩) W' ∧ Owns W' w.heap.size [.bool false, .slice none 0 0, .slice none 0 0] (redR n d) [] ∧ Ext w W' := fun hno => by
    obtain ⟨W', st, ld, ow, xx, _, _⟩ := agg_end (t := T_impl_Rat) q1 (X.trans Y) (by omega) (own_rat0 w5 (r1 + 1)) (by kernel_rfl) rfl (by omega) (by omega)
    exact ⟨W', st, ld, by rw [redR_no hno]; exact ow, xx⟩
  refine ⟨_, _, _, _, _, _, rfl, ifD (fun h4 => ifT ?_) (fun h4 => ifD (fun h6 => ?_) (fun h6 => ?_))⟩
  · have hno : redOk n d = false := by rw [hok, decide_eq_false (by omega)]; rfl
    obtain ⟨W', st, ld, ow, xx⟩ := bad hno
    exact ⟨W', st, _, _, _, _, _, _, _, ld, _, [], by rw [hno], ow, List.nodup_nil, xx⟩
  · have hno : redOk n d = false := by rw [hok, decide_eq_false (show ¬ n6 ≤ 18 by omega), Bool.and_false]
    obtain ⟨W', st, ld, ow, xx⟩ := bad hno
    exact ⟨W', st, _, _, _, _, _, _, _, ld, _, [], by rw [hno], ow, List.nodup_nil, xx⟩
  · have hyes : redOk n d = true := by rw [hok, decide_eq_true (show n4 ≤ 18 by omega), decide_eq_true (show n6 ≤ 18 by omega)]; rfl
    refine ⟨_, q0.loadAt 0 rfl (by kernel_rfl) rfl, ?_⟩
    refine Ret.at (impl_signed_c (neg := decide (n < 0)) (o4.ext y5).ints.1) ?_
    rintro v w6 ⟨hv, y6⟩
    subst hv
    have ho : Owns w6 w3.heap.size [.bool (decide (n < 0) && !(digs (n.natAbs / Nat.gcd n.natAbs d)).isEmpty), .slice p4 n4 c4] (enc (redN n d)) (p4.map (·.block)).toList := by
      rw [enc_redN]
      exact Owns.int2 ((o4.ext y5).ext y6)
    have hr := own_rmk ho ((o6.mono (show w3.heap.size ≤ w4.heap.size by omega)).ext y6)
    obtain ⟨W', st, ld, ow, xx, _, _⟩ := agg_end (t := T_impl_Rat) (q1.ext y6) ((X.trans Y).trans y6) (by omega) hr (by kernel_rfl) rfl (by omega) (by omega)
    refine ⟨_, _, _, _, rfl, W', st, _, _, _, _, _, _, _, ld, _, _, by rw [hyes], by rw [redR_yes hyes]; exact ow, ?_, xx⟩
    exact nodup_append (nodup_opt p4) (nodup_opt p6) (m := w4.heap.size) (fun q hq => (ho.lt q hq).2 |> fun _ => (World.ownsRow.lt o4 q (by cases p4 <;> simp_all [Value.ownBlock])).2) (fun q hq => (World.ownsRow.lt o6 q (by cases p6 <;> simp_all [Value.ownBlock])).1)
theorem spec_l05Gcd_c {w : World} {p q : Option Addr} {n c m d : Nat} {x y : Nat} (h : IntsR w p n c (digs x)) (k : IntsR w q m d (digs y)) (hn : n ≤ 1000) (hm : m ≤ 1000) :
    Ret P n_spec_l05Gcd [.slice p n c, .slice q m d] w fun v w' => ∃ p' n' c', v = .slice p' n' c' ∧ IntsR w' p' n' c' (digs (Nat.gcd x y)) ∧ Ext w w' := by
  refine spec_l05Gcd_ret ?_
  unfold spec_l05Gcd
  obtain ⟨f, hf⟩ := numAt_ex
  refine ⟨fun ap an ac bp bn bc wr => ∃ s t, IntsR wr ap an ac (digs s) ∧ IntsR wr bp bn bc (digs t) ∧ an ≤ 100000 ∧ bn ≤ 100000 ∧ Ext w wr ∧ Nat.gcd s t = Nat.gcd x y, fun _ _ _ bp bn bc W => f W bp bn bc, ⟨x, y, h, k, by omega, by omega, Ext.refl _, rfl⟩, ?_⟩
  intro junk wr ap an ac bp bn bc ⟨s, t, ha, hb, han, hbn, hx, hg⟩
  have hbl := hb.1
  refine ifD (fun hlt => ?_) (fun hge => ?_)
  · have ht : 0 < t := by
      rcases Nat.eq_zero_or_pos t with e | e
      · subst e; rw [digs_zero] at hbl; simp at hbl; omega
      · exact e
    refine Ret.at (spec_l03Div_c ha hb (digs_limbs _) (digs_canon _) (by omega) han hbn) ?_
    rintro v w1 ⟨p1, n1, c1, p2, n2, c2, hv, o1, o2, y1⟩
    subst hv
    rw [val_mod] at o2
    have hn2 : n2 ≤ bn := by
      have := o2.1
      have := digs_mod_len (x := s) ht
      omega
    refine ⟨_, _, _, _, _, _, rfl, ⟨t, s % t, hb.ext y1, o2, hbn, by omega, hx.trans y1, by rw [gcd_step, hg]⟩, ?_⟩
    show f w1 p2 n2 c2 < f wr bp bn bc
    rw [hf _ _ _ _ _ o2, hf _ _ _ _ _ hb]
    exact Nat.mod_lt _ ht
  · have ht : t = 0 := by
      have : bn = 0 := by omega
      rw [this] at hbl
      exact digs_nil.1 (List.eq_nil_of_length_eq_zero hbl)
    subst ht
    rw [Nat.gcd_zero_right] at hg
    subst hg
    exact ⟨_, _, _, rfl, ha, hx⟩
theorem spec_l05Low_c {w : World} {neg : Bool} {n : Int} {d : Nat} {p q : Option Addr} {m c m2 c2 : Nat} (h : IntsR w p m c (digs n.natAbs)) (k : IntsR w q m2 c2 (digs d)) (hneg : n ≠ 0 → neg = decide (n < 0)) (hd : 0 < d) (hl : m ≤ 1000) (hm : m2 ≤ 1000) :
    Ret P n_spec_l05Low [.bool neg, .slice p m c, .slice q m2 c2] w fun v w' => ∃ vs f, v = .tuple #[.agg ⟨vs⟩, .bool (redOk n d)] ∧ Owns w' w.heap.size vs (redR n d) f ∧ f.Nodup ∧ Ext w w' := by
  have hla := h.1; have hlk := k.1
  refine spec_l05Low_ret ?_
  unfold spec_l05Low
  intro r w1 hn1
  have e1 := hn1.r_eq; have z1 := hn1.size
  refine Ret.at (spec_l02Trim_c (h.ext hn1.ext)) ?_
  rintro v w2 ⟨hv, hw, ht⟩
  subst hv; subst hw
  rw [trimL_eq (digs_limbs _), val_digs, Int.toNat_natCast] at ht ⊢
  refine ⟨_, _, _, rfl, ?_⟩
  refine Ret.at (spec_l02Trim_c (k.ext hn1.ext)) ?_
  rintro v w3 ⟨hv, hw, kt⟩
  subst hv; subst hw
  rw [trimL_eq (digs_limbs _), val_digs, Int.toNat_natCast] at kt ⊢
  have hd0 := digs_pos_len.2 (show d ≠ 0 by omega)
  refine ⟨_, _, _, rfl, ifD (fun hh => absurd hh (by omega)) (fun _ => ?_)⟩
  refine Ret.at (spec_l05Gcd_c ht kt (by omega) (by omega)) ?_
  rintro v w4 ⟨p4, n4, c4, hv, G, y4⟩
  subst hv
  have gpos : 0 < Nat.gcd n.natAbs d := gcd_pos_right hd
  have lg := G.1
  have hg3 : 0 < n4 := by have := digs_pos_len.2 (show Nat.gcd n.natAbs d ≠ 0 by omega); omega
  have hg4 : n4 ≤ 1000 := by have := digs_mono_len (Nat.le_of_dvd hd (Nat.gcd_dvd_right n.natAbs d)); omega
  refine ⟨_, _, _, rfl, ?_⟩
  refine Ret.at (spec_l03Div_c (ht.ext y4) G (digs_limbs _) (digs_canon _) hg3 (by omega) (by omega)) ?_
  rintro v w5 ⟨p5, n5, c5, p6, n6, c6, hv, i5, _, y5⟩
  subst hv
  rw [val_div] at i5
  refine ⟨_, _, _, _, _, _, rfl, ?_⟩
  refine Ret.at (spec_l03Div_c (kt.ext (y4.trans y5)) (G.ext y5) (digs_limbs _) (digs_canon _) hg3 (by omega) (by omega)) ?_
  rintro v w6 ⟨p7, n7, c7, p8, n8, c8, hv, i7, _, y6⟩
  subst hv
  rw [val_div] at i7
  have Y := (y4.trans y5).trans y6
  have q1 := hn1.blk.ext Y
  have X := hn1.ext.trans Y
  have lY := Y.le
  have l5 := i5.1; have l7 := i7.1
  have hok : redOk n d = (decide (n5 ≤ 18) && decide (n7 ≤ 18)) := by rw [redOk, l5, l7]
  have bad : redOk n d = false → ∃ W', Stores P T_impl_Rat ⟨r, 0, none⟩ (.agg ⟨[.bool false, .slice none 0 0, .slice none 0 0]⟩) w6 W' ∧ Loads P T_impl_Rat ⟨r, 0, none⟩ (.agg ⟨[.bool false, .slice none 0 0, .slice none 0 0]⟩) W' ∧ Owns W' w.heap.size [.bool false, .slice none 0 0, .slice none 0 0] (redR n d) [] ∧ Ext w W' := fun hno => by
    obtain ⟨W', st, ld, ow, xx, _, _⟩ := agg_end (t := T_impl_Rat) q1 X (by omega) (own_rat0 w6 (r + 1)) (by kernel_rfl) rfl (by omega) (by omega)
    exact ⟨W', st, ld, by rw [redR_no hno]; exact ow, xx⟩
  refine ⟨_, _, _, _, _, _, rfl, ifD (fun h4 => ifT ?_) (fun h4 => ifD (fun h6 => ?_) (fun h6 => ?_))⟩
  · have hno : redOk n d = false := by rw [hok, decide_eq_false (by omega)]; rfl
    obtain ⟨W', st, ld, ow, xx⟩ := bad hno
    exact ⟨W', st, _, _, _, _, _, _, _, ld, _, [], by rw [hno], ow, List.nodup_nil, xx⟩
  · have hno : redOk n d = false := by rw [hok, decide_eq_false (show ¬ n7 ≤ 18 by omega), Bool.and_false]
    obtain ⟨W', st, ld, ow, xx⟩ := bad hno
    exact ⟨W', st, _, _, _, _, _, _, _, ld, _, [], by rw [hno], ow, List.nodup_nil, xx⟩
  · have hyes : redOk n d = true := by rw [hok, decide_eq_true (show n5 ≤ 18 by omega), decide_eq_true (show n7 ≤ 18 by omega)]; rfl
    refine Ret.at (spec_l04Make_c (i5.ext y6) (digs_limbs _)) ?_
    rintro v w7 ⟨b7, p9, n9, c9, hv, hb7, o9, y7⟩
    subst hv
    rw [val_digs, Int.toNat_natCast] at hb7 o9
    have ecap : capL (digs (n.natAbs / Nat.gcd n.natAbs d)) = digs (n.natAbs / Nat.gcd n.natAbs d) := by unfold capL; rw [if_pos (by omega)]
    rw [ecap] at hb7 o9
    have ho : Owns w7 w6.heap.size [.bool b7, .slice p9 n9 c9] (enc (redN n d)) (p9.map (·.block)).toList := by
      have e : enc (redN n d) = mkS neg (digs (n.natAbs / Nat.gcd n.natAbs d)) := by
        by_cases hn : n = 0
        · subst hn
          rw [enc_redN]
          simp [mkS, digs_zero]
        · rw [enc_redN, hneg hn]
      rw [e]
      have := Owns.int2 (b := b7) o9
      rw [hb7] at this
      rw [hb7]
      exact this
    refine ⟨_, _, _, _, rfl, ?_⟩
    intro r8 w8 hn8
    obtain ⟨p10, c10, w10, ap10, o10, x10⟩ := append0 hn8.blk ((i7.ext y7).ext hn8.ext) (by omega)
    have e8 := hn8.r_eq; have z8 := hn8.size; have ly7 := y7.le; have ly6 := y6.le
    have y10 : Ext w8 w10 := x10
    have hr := own_rmk ((ho.ext hn8.ext).ext y10) (o10.mono (show w6.heap.size ≤ r8 by omega))
    obtain ⟨W', st, ld, ow, xx, _, _⟩ := agg_end (t := T_impl_Rat) (((q1.ext y7).ext hn8.ext).ext y10) (((X.trans y7).trans hn8.ext).trans y10) (by omega) hr (by kernel_rfl) rfl (by omega) (by omega)
    refine ⟨_, _, _, _, ap10, W', st, _, _, _, _, _, _, _, ld, _, _, by rw [hyes], by rw [redR_yes hyes]; exact ow, ?_, xx⟩
    exact nodup_append (nodup_opt p9) (nodup_opt p10) (m := w7.heap.size) (fun q hq => (ho.lt q hq).2) (fun q hq => by
      have := own_out o10 q (opt_mem hq)
      omega)
end Go.Proofs.YtmajiilehdpdmaaGreat

namespace Go.Proofs.YtmajiilehdpdmaaGreat
open Go Go.Proofs.YtmajiilehdpdmaaGreat.Sx
set_option linter.unusedVariables false
set_option linter.unusedSimpArgs false
theorem rmk_open {w : World} {vs : List Value} {N : Int} {D : Nat} (h : Reps w vs (rmk N D)) (hok : ratOk (rmk N D) = true) :
    ∃ p1 n1 c1 p2 n2 c2, vs = [.bool (decide (N < 0)), .slice p1 n1 c1, .slice p2 n2 c2] ∧ IntsR w p1 n1 c1 (digs N.natAbs) ∧ IntsR w p2 n2 c2 (digs D) ∧ n1 ≤ 18 ∧ n2 ≤ 18 ∧ Reps w [.bool (decide (N < 0)), .slice p1 n1 c1] (enc N) ∧ 0 < D := by
  have := rat_parts h (rmk_code N D) hok
  have k := (ratOk_enc hok).2.1
  rw [ratNum_rmk, ratDen_rmk] at this
  rw [ratDen_rmk] at k
  obtain ⟨p1, n1, c1, p2, n2, c2, a, b, c, d, e, f⟩ := this
  exact ⟨p1, n1, c1, p2, n2, c2, a, b, c, d, e, f, k⟩
theorem mkS_of {b : Bool} {m : Nat} {z : Int} (hm : m = z.natAbs) (hb : z ≠ 0 → b = decide (z < 0)) : mkS b (digs m) = enc z := by
  by_cases hz : z = 0
  · subst hz; subst hm; simp [mkS, enc, digs_zero]
  · rw [hb hz, hm]
    unfold mkS enc
    rw [isEmpty_digs]
    have : z.natAbs ≠ 0 := by omega
    simp [this]
theorem mul_sign {x y : Int} (h : x * y ≠ 0) : (!(decide (x < 0) == decide (y < 0))) = decide (x * y < 0) := by
  have hx : x ≠ 0 := fun e => h (by rw [e, Int.zero_mul])
  have hy : y ≠ 0 := fun e => h (by rw [e, Int.mul_zero])
  rcases Int.lt_or_gt_of_ne hx with h1 | h1 <;> rcases Int.lt_or_gt_of_ne hy with h2 | h2
  · have := Int.mul_pos_of_neg_of_neg h1 h2
    simp [h1, h2]; omega
  · have := Int.mul_neg_of_neg_of_pos h1 h2
    have h3 : ¬ y < 0 := by omega
    simp [h1, h3, this]
  · have := Int.mul_neg_of_pos_of_neg h1 h2
    have h3 : ¬ x < 0 := by omega
    simp [h2, h3, this]
  · have := Int.mul_pos h1 h2
    have h3 : ¬ x < 0 := by omega
    have h4 : ¬ y < 0 := by omega
    simp [h3, h4]; omega
theorem val_mul (m k : Nat) : (val (digs m) * val (digs k)).toNat = m * k := by rw [val_digs, val_digs, ← Int.natCast_mul, Int.toNat_natCast]
theorem natCast_enc (k : Nat) : enc (k : Int) = [.bool false, .ints (digs k)] := enc_nat k
theorem own_int {W : World} {B : Nat} {b : Bool} {p : Option Addr} {n c m : Nat} {z : Int} (h : Own W B T_int 1 p n c ((digs m).map (Value.int .i64))) (hm : m = z.natAbs) (hb : z ≠ 0 → b = decide (z < 0)) :
    Owns W B [.bool (b && !(digs m).isEmpty), .slice p n c] (enc z) (p.map (·.block)).toList := by
  rw [← mkS_of hm hb]
  exact Owns.int2 h
def FlSt (o : Obj) (w0 : World) (ss : List (Option Nat)) (w : World) : Prop := Ext w0 w ∧ (ss = [none] ∨ ∃ r, ss = [some r] ∧ w0.heap.size ≤ r ∧ w.heap[r]? = some o)
theorem FlSt.start {o : Obj} (w0 : World) : FlSt o w0 [none] w0 := ⟨Ext.refl _, .inl rfl⟩
theorem FlSt.ext {o : Obj} {w0 w w' : World} {ss : List (Option Nat)} (h : FlSt o w0 ss w) (y : Ext w w') : FlSt o w0 ss w' := by
  refine ⟨h.1.trans y, ?_⟩
  rcases h.2 with h2 | ⟨r, h2, h3, h4⟩
  · exact .inl h2
  · exact .inr ⟨r, h2, h3, (y.block r (Array.getElem?_eq_some_iff.1 h4).1).trans h4⟩
theorem FlSt.step {o : Obj} {w0 w w' : World} {ss ss' : List (Option Nat)} (h : FlSt o w0 ss w) (f : Fl [o] ss w ss' w') : FlSt o w0 ss' w' := by
  refine ⟨h.1.trans f.ext, ?_⟩
  have hl := f.len
  rcases h.2 with h2 | ⟨r, h2, h3, h4⟩
  · subst h2
    match ss', hl, f with
    | [none], _, _ => exact .inl rfl
    | [some r], _, f =>
      obtain ⟨a, b⟩ := f.got (k := 0) rfl rfl rfl
      exact .inr ⟨r, rfl, Nat.le_trans h.1.le a, b⟩
    | [], hl, _ => simp at hl
    | _ :: _ :: _, hl, _ => simp at hl
  · subst h2
    have hk := f.keeps (k := 0) (r := r) rfl
    match ss', hl, hk with
    | [x], _, hk =>
      simp at hk
      subst hk
      exact .inr ⟨r, rfl, h3, (f.ext.block r (Array.getElem?_eq_some_iff.1 h4).1).trans h4⟩
    | [], hl, _ => simp at hl
    | _ :: _ :: _, hl, _ => simp at hl
theorem FlSt.get {o : Obj} {w0 w : World} {ss : List (Option Nat)} {r : Nat} (h : FlSt o w0 ss w) (hr : ss[0]? = some (some r)) : w0.heap.size ≤ r ∧ w.heap[r]? = some o := by
  rcases h.2 with h2 | ⟨r', h2, h3, h4⟩
  · subst h2; simp at hr
  · subst h2
    simp at hr
    subst hr
    exact ⟨h3, h4⟩
theorem impl_ratsOk_c {w : World} {xs ys : List Value} {N1 N2 : Int} {D1 D2 : Nat} (h : Reps w xs (rmk N1 D1)) (g : Reps w ys (rmk N2 D2)) (hok : ratOk (rmk N1 D1) = true) (gok : ratOk (rmk N2 D2) = true) :
    Ret P n_impl_ratsOk [.agg ⟨xs⟩, .agg ⟨ys⟩] w fun v w' => v = .bool true ∧ Ext w w' := by
  have hr := h; have gr := g
  obtain ⟨p1, n1, c1, q1, m1, d1, rfl, i1, i2, _, _, he, hd1⟩ := rmk_open h hok
  obtain ⟨p2, n2, c2, q2, m2, d2, rfl, j1, j2, _, _, ke, hd2⟩ := rmk_open g gok
  refine impl_ratsOk_ret ?_
  unfold impl_ratsOk
  intro r w1 hn1 r1 w2 hn2
  have X := hn1.ext.trans hn2.ext
  refine ⟨_, _, _, _, _, _, _, (hn1.blk.ext hn2.ext).loadA0 (by kernel_rfl), ?_⟩
  refine Ret.at (impl_RatOk_c (hr.ext X) (rmk_code _ _)) ?_
  rintro v w3 ⟨hv, y3⟩
  subst hv
  rw [hok]
  refine ⟨_, rfl, ifT ⟨_, _, _, _, _, _, _, (hn2.blk.ext y3).loadA0 (by kernel_rfl), ?_⟩⟩
  refine Ret.at (impl_RatOk_c (gr.ext (X.trans y3)) (rmk_code _ _)) ?_
  rintro v w4 ⟨hv, y4⟩
  subst hv
  rw [gok]
  exact ⟨_, rfl, rfl, (X.trans y3).trans y4⟩
theorem impl_intMul_s {w : World} {xs ys : List Value} {x y : Int} (h : Reps w xs (enc x)) (g : Reps w ys (enc y)) (hx : (digs x.natAbs).length ≤ 100) (hy : (digs y.natAbs).length ≤ 100) :
    Ret P n_impl_intMul [.agg ⟨xs⟩, .agg ⟨ys⟩] w fun v w' => ∃ vs f, v = .agg ⟨vs⟩ ∧ Owns w' w.heap.size vs (enc (x * y)) f ∧ f.Nodup ∧ Ext w w' := by
  obtain ⟨a0, ap, an, ac, az, rfl, hd, ha⟩ := open_Signed h (enc_code _)
  simp only [enc, List.cons.injEq, D0.bool.injEq, D0.ints.injEq, and_true] at hd
  obtain ⟨rfl, rfl⟩ := hd
  obtain ⟨b0, bp, bn, bc, bz, rfl, hd, hb⟩ := open_Signed g (enc_code _)
  simp only [enc, List.cons.injEq, D0.bool.injEq, D0.ints.injEq, and_true] at hd
  obtain ⟨rfl, rfl⟩ := hd
  have la := ha.1; have lb := hb.1
  refine impl_intMul_ret ?_
  unfold impl_intMul
  intro r w1 hn1 r1 w2 hn2 r2 w3 hn3
  have e1 := hn1.r_eq; have e2 := hn2.r_eq; have e3 := hn3.r_eq; have z1 := hn1.size; have z2 := hn2.size; have z3 := hn3.size
  have D := Ext.drew w3
  have X := ((hn1.ext.trans hn2.ext).trans hn3.ext).trans D
  have q0 := ((hn1.blk.ext hn2.ext).ext hn3.ext).ext D
  have q1 := (hn2.blk.ext hn3.ext).ext D
  have q2 := hn3.blk.ext D
  have lD := D.le
  refine ⟨_, fun W hW => (q0.ext hW).loadAt 0 rfl (by kernel_rfl) rfl, _, fun W hW => (q1.ext hW).loadAt 0 rfl (by kernel_rfl) rfl, _, _, _, fun W hW => (q0.ext hW).loadAt 1 rfl (by kernel_rfl) rfl, _, _, _, fun W hW => (q1.ext hW).loadAt 1 rfl (by kernel_rfl) rfl, ?_⟩
  refine Ret.at (impl_natMul_c (ha.ext X) (hb.ext X) (digs_limbs _) (digs_limbs _) (by omega) (by omega)) ?_
  rintro v w4 ⟨p', n', c', hv, ho, y4⟩
  subst hv
  rw [val_mul] at ho
  refine ⟨_, _, _, rfl, y4, ?_⟩
  refine Ret.at (impl_signed_c (neg := !(decide (x < 0) == decide (y < 0))) ho.ints.1) ?_
  rintro v w5 ⟨hv, y5⟩
  subst hv
  obtain ⟨W', st, ld, ow, xx, _, _⟩ := agg_end (t := T_impl_Signed) ((q2.ext y4).ext y5) ((X.trans y4).trans y5) (by omega) (own_int (ho.ext y5) (z := x * y) (by rw [Int.natAbs_mul]) mul_sign) (by kernel_rfl) rfl (by omega) (by omega)
  exact ⟨_, _, _, _, rfl, W', st, _, _, _, _, ld, _, _, rfl, ow, nodup_opt p', xx⟩
theorem impl_RatMul_n {w : World} {xs ys : List Value} {N1 N2 : Int} {D1 D2 : Nat} (h : Reps w xs (rmk N1 D1)) (g : Reps w ys (rmk N2 D2)) (hok : ratOk (rmk N1 D1) = true) (gok : ratOk (rmk N2 D2) = true) :
    Ret P n_impl_RatMul [.agg ⟨xs⟩, .agg ⟨ys⟩] w fun v w' => ∃ vs f, v = .tuple #[.agg ⟨vs⟩, .bool (redOk (N1 * N2) (D1 * D2))] ∧ Owns w' w.heap.size vs (redR (N1 * N2) (D1 * D2)) f ∧ f.Nodup ∧ Ext w w' := by
  have hr := h; have gr := g
  obtain ⟨p1, n1, c1, q1, m1, d1, rfl, i1, i2, li1, li2, he, hd1⟩ := rmk_open h hok
  obtain ⟨p2, n2, c2, q2, m2, d2, rfl, j1, j2, lj1, lj2, ke, hd2⟩ := rmk_open g gok
  have ei1 := i1.1; have ei2 := i2.1; have ej1 := j1.1; have ej2 := j2.1
  have pN := prod_len (x := N1.natAbs) (y := N2.natAbs) (i := 18) (j := 18) (by omega) (by omega)
  have pD := prod_len (x := D1) (y := D2) (i := 18) (j := 18) (by omega) (by omega)
  refine impl_RatMul_ret ?_
  unfold impl_RatMul
  intro r w1 hn1 r1 w2 hn2 r2 w3 hn3
  have e1 := hn1.r_eq; have e2 := hn2.r_eq; have e3 := hn3.r_eq; have z1 := hn1.size; have z2 := hn2.size; have z3 := hn3.size
  have X := (hn1.ext.trans hn2.ext).trans hn3.ext
  have b0 := (hn1.blk.ext hn2.ext).ext hn3.ext; have b1 := hn2.blk.ext hn3.ext; have b2 := hn3.blk
  refine ⟨_, _, _, _, _, _, _, b0.loadA0 (by kernel_rfl), _, _, _, _, _, _, _, b1.loadA0 (by kernel_rfl), ?_⟩
  refine Ret.at (impl_ratsOk_c (hr.ext X) (gr.ext X) hok gok) ?_
  rintro v w4 ⟨hv, y4⟩
  subst hv
  refine ⟨_, rfl, ifN (fun hh => absurd hh (by simp)) (fun _ => ?_)⟩
  have D := Ext.drew w4
  have Y := y4.trans D
  have X4 := X.trans Y
  have lY := Y.le
  have b0 := b0.ext Y; have b1 := b1.ext Y; have b2 := b2.ext Y
  refine ⟨_, _, _, _, fun W hW => (b0.ext hW).loadAAt 0 [.bool (decide (N1 < 0)), .slice p1 n1 c1] rfl (by kernel_rfl) rfl, _, _, _, _, fun W hW => (b1.ext hW).loadAAt 0 [.bool (decide (N2 < 0)), .slice p2 n2 c2] rfl (by kernel_rfl) rfl, ?_⟩
  refine Ret.at (impl_intMul_s (he.ext X4) (ke.ext X4) (by omega) (by omega)) ?_
  rintro v w5 ⟨vs5, f5, hv, ho5, _, y5⟩
  subst hv
  obtain ⟨s0, sp, sn, sc, sz, rfl, _, _⟩ := open_Signed ho5.reps (enc_code _)
  refine ⟨_, _, _, _, rfl, y5, _, _, _, fun W hW => (b0.ext hW).loadAt 2 rfl (by kernel_rfl) rfl, _, _, _, fun W hW => (b1.ext hW).loadAt 2 rfl (by kernel_rfl) rfl, ?_⟩
  refine Ret.at (impl_natMul_c (i2.ext (X4.trans y5)) (j2.ext (X4.trans y5)) (digs_limbs _) (digs_limbs _) (by omega) (by omega)) ?_
  rintro v w6 ⟨p6, n6, c6, hv, o6, y6⟩
  subst hv
  rw [val_mul] at o6
  have l6 := o6.ints.1
  have l5 := y5.le; have l6' := y6.le
  refine ⟨_, _, _, rfl, ?_⟩
  refine Ret.at (impl_reduce_c (ho5.reps.ext y6) o6.ints (Nat.mul_pos hd1 hd2) (by rw [Int.natAbs_mul]; omega) (by omega)) ?_
  rintro v w99 ⟨vs9, f9, hv, ho9, nd9, y99⟩
  subst hv
  obtain ⟨zb, zp, zn, zc, zz, zp2, zn2, zc2, zz2, rfl, _, _, _⟩ := open_Rat ho9.reps (redR_code _ _)
  obtain ⟨W', st', ld', ow', xx', _, _⟩ := agg_end (t := T_impl_Rat) (((b2.ext y5).ext y6).ext y99) (((X4.trans y5).trans y6).trans y99) (by omega) ho9 (by kernel_rfl) rfl (by omega) (by omega)
  exact ⟨_, _, _, _, _, _, _, _, rfl, W', st', _, _, _, _, _, _, _, ld', _, f9, rfl, ow', nd9, xx'⟩
  
theorem spec_RatMul_n {w : World} {xs ys : List Value} {N1 N2 : Int} {D1 D2 : Nat} (h : Reps w xs (rmk N1 D1)) (g : Reps w ys (rmk N2 D2)) (hok : ratOk (rmk N1 D1) = true) (gok : ratOk (rmk N2 D2) = true) :
    Ret P n_spec_RatMul [.agg ⟨xs⟩, .agg ⟨ys⟩] w fun v w' => ∃ vs f, v = .tuple #[.agg ⟨vs⟩, .bool (redOk (N1 * N2) (D1 * D2))] ∧ Owns w' w.heap.size vs (redR (N1 * N2) (D1 * D2)) f ∧ f.Nodup ∧ Ext w w' := by
  have hr := h; have gr := g
  obtain ⟨p1, n1, c1, q1, m1, d1, rfl, i1, i2, li1, li2, he, hd1⟩ := rmk_open h hok
  obtain ⟨p2, n2, c2, q2, m2, d2, rfl, j1, j2, lj1, lj2, ke, hd2⟩ := rmk_open g gok
  have ei1 := i1.1; have ei2 := i2.1; have ej1 := j1.1; have ej2 := j2.1
  have pN := prod_len (x := N1.natAbs) (y := N2.natAbs) (i := 18) (j := 18) (by omega) (by omega)
  have pD := prod_len (x := D1) (y := D2) (i := 18) (j := 18) (by omega) (by omega)
  refine spec_RatMul_ret ?_
  unfold spec_RatMul
  intro r w1 hn1 r1 w2 hn2 r2 w3 hn3
  have e1 := hn1.r_eq; have e2 := hn2.r_eq; have e3 := hn3.r_eq; have z1 := hn1.size; have z2 := hn2.size; have z3 := hn3.size
  have X := (hn1.ext.trans hn2.ext).trans hn3.ext
  have b0 := (hn1.blk.ext hn2.ext).ext hn3.ext; have b1 := hn2.blk.ext hn3.ext; have b2 := hn3.blk
  refine ⟨_, _, _, _, _, _, _, b0.loadA0 (by kernel_rfl), ?_⟩
  refine Ret.at (spec_RatOk_c (hr.ext X) (rmk_code _ _)) ?_
  rintro v w5 ⟨hv, y5⟩
  subst hv
  rw [hok]
  refine ⟨_, rfl, ifN (fun hh => absurd hh (by simp)) (fun _ => ⟨_, _, _, _, _, _, _, (b1.ext y5).loadA0 (by kernel_rfl), ?_⟩)⟩
  refine Ret.at (spec_RatOk_c (gr.ext (X.trans y5)) (rmk_code _ _)) ?_
  rintro v w4 ⟨hv, y4⟩
  subst hv
  rw [gok]
  refine ⟨_, rfl, ifN (fun hh => absurd hh (by simp)) (fun _ => ?_)⟩
  unfold spec_RatMul_j0
  have D := Ext.drew w4
  have Y := (y5.trans y4).trans D
  have X4 := X.trans Y
  have lY := Y.le
  have b0 := b0.ext Y; have b1 := b1.ext Y; have b2 := b2.ext Y
  refine ⟨_, fun W hW => (b0.ext hW).loadAt 0 rfl (by kernel_rfl) rfl, _, fun W hW => (b1.ext hW).loadAt 0 rfl (by kernel_rfl) rfl, _, _, _, fun W hW => (b0.ext hW).loadAt 1 rfl (by kernel_rfl) rfl, _, _, _, fun W hW => (b1.ext hW).loadAt 1 rfl (by kernel_rfl) rfl, ?_⟩
  refine Ret.at (spec_l02Mul_c (i1.ext X4) (j1.ext X4) (digs_limbs _) (digs_limbs _) (by omega) (by omega)) ?_
  rintro v w6 ⟨p6, n6, c6, hv, o6, y6⟩
  subst hv
  rw [val_mul, ← Int.natAbs_mul] at o6
  rw [← Int.natAbs_mul] at pN
  have l6 := o6.ints.1
  refine ⟨_, _, _, rfl, y6, _, _, _, fun W hW => (b0.ext hW).loadAt 2 rfl (by kernel_rfl) rfl, _, _, _, fun W hW => (b1.ext hW).loadAt 2 rfl (by kernel_rfl) rfl, ?_⟩
  refine Ret.at (spec_l02Mul_c (i2.ext (X4.trans y6)) (j2.ext (X4.trans y6)) (digs_limbs _) (digs_limbs _) (by omega) (by omega)) ?_
  rintro v w7 ⟨p7, n7, c7, hv, o7, y7⟩
  subst hv
  rw [val_mul] at o7
  have l7 := o7.ints.1
  have l6' := y6.le; have l7' := y7.le
  refine ⟨_, _, _, rfl, y7, ?_⟩
  refine Ret.at (spec_l05Low_c (n := N1 * N2) (o6.ints.ext y7) o7.ints mul_sign (Nat.mul_pos hd1 hd2) (by omega) (by omega)) ?_
  rintro v w99 ⟨vs9, f9, hv, ho9, nd9, y99⟩
  subst hv
  obtain ⟨zb, zp, zn, zc, zz, zp2, zn2, zc2, zz2, rfl, _, _, _⟩ := open_Rat ho9.reps (redR_code _ _)
  obtain ⟨W', st', ld', ow', xx', _, _⟩ := agg_end (t := T_impl_Rat) (((b2.ext y6).ext y7).ext y99) (((X4.trans y6).trans y7).trans y99) (by omega) ho9 (by kernel_rfl) rfl (by omega) (by omega)
  exact ⟨_, _, _, _, _, _, _, _, rfl, W', st', _, _, _, _, _, _, _, ld', _, f9, rfl, ow', nd9, xx'⟩
  
theorem spec_RatMake_n {w : World} {xs ys : List Value} {x : Int} {k : Nat} (h : Reps w xs (enc x)) (g : Reps w ys (enc (k : Int))) (hx : (digs x.natAbs).length ≤ 50) (hk : (digs k).length ≤ 50) (hk0 : 0 < k) :
    Ret P n_spec_RatMake [.agg ⟨xs⟩, .agg ⟨ys⟩] w fun v w' => ∃ vs f, v = .tuple #[.agg ⟨vs⟩, .bool (redOk (x) (k))] ∧ Owns w' w.heap.size vs (redR (x) (k)) f ∧ f.Nodup ∧ Ext w w' := by
  have hr := h; have gr := g
  obtain ⟨a0, p1, n1, c1, az, rfl, hd, i1⟩ := open_Signed h (enc_code _)
  simp only [enc, List.cons.injEq, D0.bool.injEq, D0.ints.injEq, and_true] at hd
  obtain ⟨rfl, rfl⟩ := hd
  rw [natCast_enc] at g
  obtain ⟨b0, p2, n2, c2, bz, rfl, hd, j1⟩ := open_Signed g rfl
  simp only [List.cons.injEq, D0.bool.injEq, D0.ints.injEq, and_true] at hd
  obtain ⟨rfl, rfl⟩ := hd
  have ei1 := i1.1; have ej1 := j1.1
  have ok1 : intOk (enc x) = true := enc_ok hx
  have ok2 : intOk (enc (k : Int)) = true := enc_ok (by rw [Int.natAbs_natCast]; exact hk)
  have hk1 := digs_pos_len.2 (show k ≠ 0 by omega)
  have sg : x ≠ 0 → (!(decide (x < 0) == false)) = decide (x < 0) := fun _ => by cases decide (x < 0) <;> rfl
  refine spec_RatMake_ret ?_
  unfold spec_RatMake
  intro r w1 hn1 r1 w2 hn2 r2 w3 hn3
  have e1 := hn1.r_eq; have e2 := hn2.r_eq; have e3 := hn3.r_eq; have z1 := hn1.size; have z2 := hn2.size; have z3 := hn3.size
  have X := (hn1.ext.trans hn2.ext).trans hn3.ext
  have b0 := (hn1.blk.ext hn2.ext).ext hn3.ext; have b1 := hn2.blk.ext hn3.ext; have b2 := hn3.blk
  refine ⟨_, _, _, _, b0.loadA0 (by kernel_rfl), ?_⟩
  refine Ret.at (spec_IntOk_c (hr.ext X) (enc_code _)) ?_
  rintro v w4 ⟨hv, y4⟩
  subst hv
  rw [ok1]
  refine ⟨_, rfl, ifN (fun hh => absurd hh (by simp)) (fun _ => ⟨_, _, _, _, (b1.ext y4).loadA0 (by kernel_rfl), ?_⟩)⟩
  refine Ret.at (spec_IntOk_c (gr.ext (X.trans y4)) (enc_code _)) ?_
  rintro v w5 ⟨hv, y5⟩
  subst hv
  rw [ok2]
  refine ⟨_, rfl, ifN (fun hh => absurd hh (by simp)) (fun _ => ?_)⟩
  unfold spec_RatMake_j0
  have Y := y4.trans y5
  have X4 := X.trans Y
  have lY := Y.le
  have b0 := b0.ext Y; have b1 := b1.ext Y; have b2 := b2.ext Y
  refine ⟨_, b0.loadAt 0 rfl (by kernel_rfl) rfl, _, b1.loadAt 0 rfl (by kernel_rfl) rfl, _, _, _, b0.loadAt 1 rfl (by kernel_rfl) rfl, _, _, _, b1.loadAt 1 rfl (by kernel_rfl) rfl, ?_⟩
  refine Ret.at (spec_l05Low_c (n := x) (i1.ext X4) (j1.ext X4) sg hk0 (by omega) (by omega)) ?_
  rintro v w99 ⟨vs9, f9, hv, ho9, nd9, y99⟩
  subst hv
  obtain ⟨zb, zp, zn, zc, zz, zp2, zn2, zc2, zz2, rfl, _, _, _⟩ := open_Rat ho9.reps (redR_code _ _)
  obtain ⟨W', st', ld', ow', xx', _, _⟩ := agg_end (t := T_impl_Rat) ((b2).ext y99) ((X4).trans y99) (by omega) ho9 (by kernel_rfl) rfl (by omega) (by omega)
  exact ⟨_, _, _, _, _, _, _, _, rfl, W', st', _, _, _, _, _, _, _, ld', _, f9, rfl, ow', nd9, xx'⟩
  
theorem spec_RatInt_n {w : World} {xs : List Value} {x : Int} (h : Reps w xs (enc x)) (hx : (digs x.natAbs).length ≤ 50) :
    Ret P n_spec_RatInt [.agg ⟨xs⟩] w fun v w' => ∃ vs f, v = .tuple #[.agg ⟨vs⟩, .bool (redOk (x) (1))] ∧ Owns w' w.heap.size vs (redR (x) (1)) f ∧ f.Nodup ∧ Ext w w' := by
  have hr := h
  obtain ⟨a0, p1, n1, c1, az, rfl, hd, i1⟩ := open_Signed h (enc_code _)
  refine spec_RatInt_ret ?_
  unfold spec_RatInt
  intro r w1 hn1 r1 w2 hn2
  have e1 := hn1.r_eq; have e2 := hn2.r_eq; have z1 := hn1.size; have z2 := hn2.size
  have D := Ext.drew w2
  have lD := D.le
  have X := (hn1.ext.trans hn2.ext).trans D
  have b0 := (hn1.blk.ext hn2.ext).ext D; have b1 := hn2.blk.ext D
  refine ⟨_, _, _, _, fun W hW => (b0.ext hW).loadA0 (by kernel_rfl), ?_⟩
  refine Ret.at (spec_IntOf_c (n := 1) (by omega) (by omega)) ?_
  rintro v w3 ⟨vs3, f3, hv, ho3, _, y3⟩
  subst hv
  obtain ⟨s0, sp, sn, sc, sz, rfl, _, _⟩ := open_Signed ho3.reps (enc_code _)
  have l3 := y3.le
  refine ⟨_, _, _, _, rfl, y3, ?_⟩
  refine Ret.at (spec_RatMake_n (k := 1) (hr.ext (X.trans y3)) ho3.reps hx (by rw [digs_one]; decide) (by decide)) ?_
  rintro v w99 ⟨vs9, f9, hv, ho9, nd9, y99⟩
  subst hv
  obtain ⟨zb, zp, zn, zc, zz, zp2, zn2, zc2, zz2, rfl, _, _, _⟩ := open_Rat ho9.reps (redR_code _ _)
  obtain ⟨W', st', ld', ow', xx', _, _⟩ := agg_end (t := T_impl_Rat) ((b1.ext y3).ext y99) ((X.trans y3).trans y99) (by omega) ho9 (by kernel_rfl) rfl (by omega) (by omega)
  exact ⟨_, _, _, _, _, _, _, _, rfl, W', st', _, _, _, _, _, _, _, ld', _, f9, rfl, ow', nd9, xx'⟩
  
end Go.Proofs.YtmajiilehdpdmaaGreat

namespace Go.Proofs.YtmajiilehdpdmaaGreat
open Go Go.Proofs.YtmajiilehdpdmaaGreat.Sx
abbrev CurRow := ByteArray × ByteArray × Int × Int
def implTab : List CurRow := [(S [67, 72, 70], S [55, 53, 54], 2, 5), (S [69, 85, 82], S [57, 55, 56], 2, 1), (S [85, 83, 68], S [56, 52, 48], 2, 1), (S [71, 66, 80], S [56, 50, 54], 2, 1), (S [74, 80, 89], S [51, 57, 50], 0, 1), (S [83, 69, 75], S [55, 53, 50], 2, 100), (S [78, 79, 75], S [53, 55, 56], 2, 100), (S [68, 75, 75], S [50, 48, 56], 2, 50), (S [67, 90, 75], S [50, 48, 51], 2, 100), (S [72, 85, 70], S [51, 52, 56], 2, 500), (S [80, 76, 78], S [57, 56, 53], 2, 1), (S [67, 65, 68], S [49, 50, 52], 2, 5), (S [65, 85, 68], S [48, 51, 54], 2, 5), (S [78, 90, 68], S [53, 53, 52], 2, 10), (S [75, 87, 68], S [52, 49, 52], 3, 5), (S [66, 72, 68], S [48, 52, 56], 3, 5), (S [84, 78, 68], S [55, 56, 56], 3, 10), (S [73, 83, 75], S [51, 53, 50], 0, 1), (S [75, 82, 87], S [52, 49, 48], 0, 10), (S [67, 76, 70], S [57, 57, 48], 4, 1)]
end Go.Proofs.YtmajiilehdpdmaaGreat

namespace Go.Proofs.YtmajiilehdpdmaaGreat
open Go Go.Proofs.YtmajiilehdpdmaaGreat.Sx
set_option linter.unusedVariables false
set_option linter.unusedSimpArgs false
def curCells (r : CurRow) : List Value := [.string r.1, .string r.2.1, .int .i64 r.2.2.1, .int .i64 r.2.2.2]
def Tab (w : World) : Prop := Seg w 0 0 (implTab.flatMap curCells)
theorem Tab.ext {w w' : World} (h : Tab w) (he : Ext w w') : Tab w' := Seg.ext h he
end Go.Proofs.YtmajiilehdpdmaaGreat

namespace Go.Proofs.YtmajiilehdpdmaaGreat
open Go Go.Proofs.YtmajiilehdpdmaaGreat.Sx
set_option linter.unusedVariables false
set_option linter.unusedSimpArgs false
theorem laws_markIntS_c {w : World} {B : Nat} {p : Option Addr} {n c : Nat} {zs : List Int} {k : Int} (h : Own w B T_int 1 p n c (zs.map (Value.int .i64))) (h0 : 0 ≤ k) (h1 : k + n ≤ 9223372036854775807) :
    Ret P n_laws_markIntS [.slice p n c, .int .i64 k] w fun v w' => v = .int .i64 (k + n) ∧ Own w' B T_int 1 p n c ((mkI n k).map (Value.int .i64)) ∧ Chg (p.map (·.block)).toList w w' := by
  have hz : zs.length = n := by have := h.len; simpa using this
  have hcap := h.le
  refine laws_markIntS_ret ?_
  unfold laws_markIntS
  refine ⟨fun k1 i wr => ∃ j : Nat, i = j ∧ j ≤ n ∧ k1 = k + j ∧ Own wr B T_int 1 p n c ((mkI j k ++ zs.drop j).map (Value.int .i64)) ∧ Chg (p.map (·.block)).toList w wr, fun _ i _ => n - i.toNat, ⟨0, rfl, by omega, by omega, by simpa [mkI] using h, Chg.refl _ _⟩, ?_⟩
  intro junk wr k1 i ⟨j, hij, hj, hk1, ho, hch⟩
  subst hij; subst hk1
  refine ifD (fun hlt => ?_) (fun hge => ?_)
  · obtain ⟨b, w2, hp, st, ho2, ch2, sz2⟩ := ho.set (P := P) (t := T_int) (i := j) (v := .int .i64 (k + j)) (by simp [mkI_len]; omega) (by kernel_rfl) rfl
    subst hp
    refine ⟨⟨by omega, by omega⟩, w2, by simpa using st, exW ⟨by omega, by omega⟩ (exW ⟨by omega, by omega⟩ ⟨⟨j + 1, by omega, by omega, by omega, ?_, hch.trans ch2⟩, ?_⟩)⟩
    · have e : (mkI j k ++ zs.drop j).set j (k + (j : Nat)) = mkI (j + 1) k ++ zs.drop (j + 1) := by
        rw [List.set_append_right _ _ (by rw [mkI_len]; omega), mkI_len, Nat.sub_self, mkI_succ, List.drop_eq_getElem_cons (show j < zs.length by omega), List.set_cons_zero, List.append_assoc]
        rfl
      rw [← e, List.map_set]
      exact ho2
    · show n - ((j : Int) + 1).toNat < n - (j : Int).toNat
      omega
  · have hjn : j = n := by omega
    subst hjn
    rw [List.drop_of_length_le (by omega), List.append_nil] at ho
    exact ⟨rfl, ho, hch⟩
theorem laws_heldIntS_c {w : World} {p : Option Addr} {n c : Nat} {k : Int} (h : IntsR w p n c (mkI n k)) (h0 : 0 ≤ k) (h1 : k + n ≤ 9223372036854775807) :
    Ret P n_laws_heldIntS [.slice p n c, .int .i64 k] w fun v w' => v = .int .i64 (k + n) ∧ Ext w w' := by
  have hcap := h.2.1; have hcm := h.2.2.1
  refine laws_heldIntS_ret ?_
  unfold laws_heldIntS
  refine ⟨fun k1 i wr => ∃ j : Nat, i = j ∧ j ≤ n ∧ k1 = k + j ∧ Ext w wr, fun _ i _ => n - i.toNat, ⟨0, rfl, by omega, by omega, Ext.refl _⟩, ?_⟩
  intro junk wr k1 i ⟨j, hij, hj, hk1, hx⟩
  subst hij; subst hk1
  refine ifD (fun hlt => ?_) (fun hge => ?_)
  · have hjn : j < n := by omega
    obtain ⟨a, hpa, hl⟩ := (h.ext hx).at (P := P) (t := T_int) (by kernel_rfl) hjn
    subst hpa
    rw [mkI_get] at hl
    refine ⟨⟨by omega, by omega⟩, k + (j : Nat), by simpa using hl, ifD (fun hne => absurd rfl hne) (fun _ => exW ⟨by omega, by omega⟩ (exW ⟨by omega, by omega⟩ ⟨⟨j + 1, by omega, by omega, by omega, hx⟩, ?_⟩))⟩
    show n - ((j : Int) + 1).toNat < n - (j : Int).toNat
    omega
  · have hjn : j = n := by omega
    subst hjn
    exact ⟨rfl, hx⟩
theorem bne_no {a b : Bool} (e : a = b) : ¬ (!(a == b)) = true := by subst e; simp
end Go.Proofs.YtmajiilehdpdmaaGreat

namespace Go.Proofs.YtmajiilehdpdmaaGreat
open Go Go.Proofs.YtmajiilehdpdmaaGreat.Sx
set_option linter.unusedVariables false
set_option linter.unusedSimpArgs false
theorem tcnts_nn {d : List D0} {m : Int} (_ : tcnts d ≤ m) : 0 ≤ tcnts d := tcnts_nonneg d
theorem opt_nil {p : Option Addr} {q : Nat} (h : q ∈ (p.map (·.block)).toList) : q ∈ (p.map (·.block)).toList ++ ([] : List Nat) := List.mem_append_left _ h
theorem laws_markSigned_c {w : World} {B : Nat} {vs : List Value} {ds : List D0} {f : List Nat} {k : Int} (h : Owns w B vs ds f) (nd : f.Nodup) (hc : ds.map D0.code = [.bool, .ints]) (h0 : 0 ≤ k) (h1 : k + tcnts ds ≤ 1000000000000000000) :
    Ret P n_laws_markSigned [.agg ⟨vs⟩, .int .i64 k] w fun v w' => v = .int .i64 (k + tcnts ds) ∧ Owns w' B vs (tmarks ds k) f ∧ Chg f w w' := by
  obtain ⟨b, us, es, rfl, rfl, h2, hc2⟩ := h.consBool hc
  obtain ⟨p, n, c, z, us, es, f2, rfl, rfl, rfl, o, h3, hc3⟩ := h2.consInts hc2
  obtain ⟨rfl, rfl, rfl⟩ := h3.done hc3
  have hz : z.length = n := by have := o.len; simpa using this
  simp only [tcnts] at h1 ⊢
  refine laws_markSigned_ret ?_
  unfold laws_markSigned
  intro r w1 hn
  refine ⟨_, _, _, hn.blk.loadAt 1 rfl (by kernel_rfl) rfl, ?_⟩
  refine Ret.at (laws_markIntS_c (o.ext hn.ext) h0 (by omega)) ?_
  rintro v w2 ⟨hv, o2, ch⟩
  subst hv
  refine ⟨_, rfl, by rw [hz, Int.add_zero], ?_, hn.ext.toChg.trans (ch.mono fun q hq => opt_nil hq)⟩
  simp only [tmarks, hz]
  exact Owns.append (Owns.bool _ _ b) (Owns.append (Owns.ints o2) (Owns.nil _ _))
theorem laws_heldSigned_c {w : World} {vs : List Value} {ds : List D0} {k : Int} (h : Reps w vs (tmarks ds k)) (hc : ds.map D0.code = [.bool, .ints]) (h0 : 0 ≤ k) (h1 : k + tcnts ds ≤ 1000000000000000000) :
    Ret P n_laws_heldSigned [.agg ⟨vs⟩, .int .i64 k] w fun v w' => v = .int .i64 (k + tcnts ds) ∧ Ext w w' := by
  obtain ⟨b, es, rfl, hc2⟩ := code_bool hc
  obtain ⟨z, es, rfl, hc3⟩ := code_ints hc2
  have := code_nil hc3; subst this
  simp only [tmarks] at h
  simp only [tcnts] at h1 ⊢
  obtain ⟨a0, ap, an, ac, az, rfl, hd, ha⟩ := open_Signed h rfl
  cases hd
  have hl := ha.1
  rw [mkI_len] at hl
  rw [hl] at ha
  refine laws_heldSigned_ret ?_
  unfold laws_heldSigned
  intro r w1 hn
  refine ⟨_, _, _, hn.blk.loadAt 1 rfl (by kernel_rfl) rfl, ?_⟩
  refine Ret.at (laws_heldIntS_c (ha.ext hn.ext) h0 (by omega)) ?_
  rintro v w2 ⟨hv, y⟩
  subst hv
  exact ⟨_, rfl, ifD (fun hl => absurd hl (by omega)) (fun _ => ⟨by rw [hl, Int.add_zero], hn.ext.trans y⟩)⟩
theorem laws_markRat_c {w : World} {B : Nat} {vs : List Value} {ds : List D0} {f : List Nat} {k : Int} (h : Owns w B vs ds f) (nd : f.Nodup) (hc : ds.map D0.code = [.bool, .ints, .ints]) (h0 : 0 ≤ k) (h1 : k + tcnts ds ≤ 1000000000000000000) :
    Ret P n_laws_markRat [.agg ⟨vs⟩, .int .i64 k] w fun v w' => v = .int .i64 (k + tcnts ds) ∧ Owns w' B vs (tmarks ds k) f ∧ Chg f w w' := by
  obtain ⟨b, us, es, rfl, rfl, h2, hc2⟩ := h.consBool hc
  obtain ⟨p, n, c, z, us, es, f2, rfl, rfl, rfl, o, h3, hc3⟩ := h2.consInts hc2
  obtain ⟨q, m, d, y, us, es, f3, rfl, rfl, rfl, o', h4, hc4⟩ := h3.consInts hc3
  obtain ⟨rfl, rfl, rfl⟩ := h4.done hc4
  have hz : z.length = n := by have := o.len; simpa using this
  have hy : y.length = m := by have := o'.len; simpa using this
  simp only [tcnts] at h1 ⊢
  have dis := (List.nodup_append.1 nd).2.2
  have d1 : ∀ x, q.map (·.block) = some x → x ∉ (p.map (·.block)).toList := fun x hx hm => dis x hm x (List.mem_append_left _ (mem_opt hx)) rfl
  have d2 : ∀ x, p.map (·.block) = some x → x ∉ (q.map (·.block)).toList := fun x hx hm => dis x (mem_opt hx) x (List.mem_append_left _ hm) rfl
  refine laws_markRat_ret ?_
  unfold laws_markRat
  intro r w1 hn
  refine ⟨_, _, _, _, hn.blk.loadAAt 0 [.bool b, .slice p n c] rfl (by kernel_rfl) rfl, ?_⟩
  refine Ret.at (laws_markSigned_c (Owns.append (Owns.bool _ _ b) (Owns.append (Owns.ints (o.ext hn.ext)) (Owns.nil _ _))) (by cases p <;> simp) rfl h0 (by simp only [tcnts, List.cons_append, List.nil_append]; omega)) ?_
  rintro v w2 ⟨hv, o2, ch⟩
  subst hv
  have ch' : Chg (p.map (·.block)).toList w1 w2 := ch.mono fun x hx => by simpa using hx
  have hr : r ∉ (p.map (·.block)).toList := fun hm => by
    have := (World.ownsRow.lt o r (by have := opt_mem hm; cases p <;> simp_all [Value.ownBlock])).2
    have := hn.r_eq
    omega
  refine ⟨_, rfl, _, _, _, (hn.blk.chg ch' hr).loadAt 2 rfl (by kernel_rfl) rfl, ?_⟩
  have e : tcnts ([D0.bool b] ++ ([D0.ints z] ++ [])) = (n : Nat) := by simp [tcnts, hz]
  rw [e]
  refine Ret.at (laws_markIntS_c ((o'.ext hn.ext).chg ch' d1) (by omega) (by omega)) ?_
  rintro v w3 ⟨hv, o3, ch3⟩
  subst hv
  have hT : Chg ((p.map (·.block)).toList ++ ((q.map (·.block)).toList ++ ([] : List Nat))) w w3 := (hn.ext.toChg.trans (ch'.mono fun x hx => List.mem_append_left _ hx)).trans (ch3.mono fun x hx => List.mem_append_right _ (List.mem_append_left _ hx))
  refine ⟨_, rfl, by rw [hz, hy, Int.add_zero, Int.add_assoc], ?_, hT⟩
  obtain ⟨p', n', c', z', us, es, f2, hv, hd, hf, o4, h5, hc5⟩ := (o2.consBool rfl).elim fun b' h => h.elim fun us h => h.elim fun es h => by
    obtain ⟨h1, h2, h3, h4⟩ := h
    cases h1; cases h2
    exact h3.consInts rfl
  cases hv; cases hd
  simp only [tmarks, hz, hy]
  have o4 := o4.chg ch3 d2
  rw [hz] at o4
  exact Owns.append (Owns.bool _ _ b) (Owns.append (Owns.ints o4) (Owns.append (Owns.ints o3) (Owns.nil _ _)))
theorem laws_heldRat_c {w : World} {vs : List Value} {ds : List D0} {k : Int} (h : Reps w vs (tmarks ds k)) (hc : ds.map D0.code = [.bool, .ints, .ints]) (h0 : 0 ≤ k) (h1 : k + tcnts ds ≤ 1000000000000000000) :
    Ret P n_laws_heldRat [.agg ⟨vs⟩, .int .i64 k] w fun v w' => v = .int .i64 (k + tcnts ds) ∧ Ext w w' := by
  obtain ⟨b, es, rfl, hc2⟩ := code_bool hc
  obtain ⟨z, es, rfl, hc3⟩ := code_ints hc2
  obtain ⟨y, es, rfl, hc4⟩ := code_ints hc3
  have := code_nil hc4; subst this
  simp only [tmarks] at h
  simp only [tcnts] at h1 ⊢
  obtain ⟨a0, ap, an, ac, az, bp, bn, bc, bz, rfl, hd, ha, hb⟩ := open_Rat h rfl
  cases hd
  have hl := ha.1; have hm := hb.1
  rw [mkI_len] at hl hm
  rw [hl, hm] at hb
  refine laws_heldRat_ret ?_
  unfold laws_heldRat
  intro r w1 hn
  refine ⟨_, _, _, _, hn.blk.loadAAt 0 [.bool b, .slice ap an ac] rfl (by kernel_rfl) rfl, ?_⟩
  have hs : Reps w1 [.bool b, .slice ap an ac] (tmarks [.bool b, .ints z] k) := ⟨rfl, ⟨_, _, _, rfl, ha.ext hn.ext⟩, trivial⟩
  refine Ret.at (laws_heldSigned_c hs rfl h0 (by simp only [tcnts]; omega)) ?_
  rintro v w2 ⟨hv, y⟩
  subst hv
  have e : tcnts [D0.bool b, .ints z] = (an : Nat) := by simp [tcnts, hl]
  rw [e]
  refine ⟨_, rfl, ifD (fun h => absurd h (by omega)) (fun _ => ⟨_, _, _, (hn.blk.ext y).loadAt 2 rfl (by kernel_rfl) rfl, ?_⟩)⟩
  refine Ret.at (laws_heldIntS_c ((hb.ext hn.ext).ext y) (by omega) (by omega)) ?_
  rintro v w3 ⟨hv, y3⟩
  subst hv
  exact ⟨_, rfl, ifD (fun h => absurd h (by omega)) (fun _ => ⟨by rw [hl, hm, Int.add_zero, Int.add_assoc], (hn.ext.trans y).trans y3⟩)⟩
end Go.Proofs.YtmajiilehdpdmaaGreat

namespace Go.Proofs.YtmajiilehdpdmaaGreat
open Go Go.Proofs.YtmajiilehdpdmaaGreat.Sx
set_option linter.unusedVariables false
set_option linter.unusedSimpArgs false
theorem digs_len_le {n : Nat} (h : n < 1000000000000000000000000000000000000000000000000000000) : (digs n).length ≤ 6 := digs_len 6 (by omega)
theorem enc_small {z : Int} (h : z.natAbs < 1000000000000000000000000000000000000000000000000000000) : intOk (enc z) = true := by
  have := digs_len_le h
  rw [← icap_fit (by omega)]; exact icap_ok z
end Go.Proofs.YtmajiilehdpdmaaGreat

namespace Go.Proofs.YtmajiilehdpdmaaGreat
open Go Go.Proofs.YtmajiilehdpdmaaGreat.Sx
set_option linter.unusedVariables false
set_option linter.unusedSimpArgs false
theorem spec_IntNeg_c {w : World} {xs : List Value} {z : Int} (h : Reps w xs (enc z)) (hok : intOk (enc z) = true) :
    Ret P n_spec_IntNeg [.agg ⟨xs⟩] w fun v w' => ∃ vs' f, v = .agg ⟨vs'⟩ ∧ Owns w' w.heap.size vs' (enc (-z)) f ∧ f.Nodup ∧ Ext w w' := by
  have hr := h
  obtain ⟨a0, a1p, a1n, a1c, a1z, rfl, hd, ha⟩ := open_Signed h (enc_code _)
  simp only [enc, List.cons.injEq, D0.bool.injEq, D0.ints.injEq, and_true] at hd
  obtain ⟨rfl, rfl⟩ := hd
  have hlen : (digs z.natAbs).length ≤ 50 := by
    obtain ⟨_, _, _, h1, hc, hl⟩ := intOk_enc hok
    simp only [enc, List.cons.injEq, D0.bool.injEq, D0.ints.injEq, and_true] at h1
    rw [h1.2]; exact hl
  refine spec_IntNeg_ret ?_
  unfold spec_IntNeg
  intro r w1 hn1 r1 w2 hn2
  have X := hn1.ext.trans hn2.ext
  have e1 := hn1.r_eq; have e2 := hn2.r_eq; have s1 := hn1.size; have s2 := hn2.size
  refine ⟨_, _, _, _, (hn1.blk.ext hn2.ext).loadA0 (by kernel_rfl), ?_⟩
  refine Ret.at (spec_IntOk_c (hr.ext X) rfl) ?_
  rintro v w3 ⟨hv, y3⟩
  subst hv
  refine ⟨_, rfl, ifN (fun hno => absurd (hno.symm.trans hok) (by simp)) (fun _ => ?_)⟩
  have k0 := (hn1.blk.ext hn2.ext).ext y3
  refine ⟨_, k0.loadAt 0 rfl (by kernel_rfl) rfl, _, _, _, k0.loadAt 1 rfl (by kernel_rfl) rfl, ?_⟩
  refine Ret.at (spec_l04Make_c (ha.ext (X.trans y3)) (digs_limbs _)) ?_
  rintro v w4 ⟨b, q, qn, qc, hv, hbb, ho, y4⟩
  subst hv
  have l3 := y3.le
  obtain ⟨w5, st, hb5, ch, sz⟩ := ((hn2.blk.ext y3).ext y4).storeA0 (P := P) (t := T_impl_Signed) (xs := [.bool b, .slice q qn qc]) (by kernel_rfl) rfl (by simp [Value.oneCell'])
  have ow := Owns.int2 (b := b) ho
  rw [hbb, val_digs, show (((z.natAbs : Nat) : Int)).toNat = z.natAbs from rfl] at ow
  have e : mkS (!decide (z < 0)) (capL (digs z.natAbs)) = enc (-z) := by
    rw [← icap_fit (z := -z) (by rw [Int.natAbs_neg]; exact hlen)]
    refine mkS_digs (by rw [Int.natAbs_neg]) fun h0 => ?_
    by_cases h1 : z < 0
    · simp [h1]; omega
    · simp [h1]; omega
  have ow2 : Owns w4 w3.heap.size [.bool b, .slice q qn qc] (enc (-z)) (q.map (·.block)).toList := by
    rw [← e, hbb, val_digs, show (((z.natAbs : Nat) : Int)).toNat = z.natAbs from rfl]; exact ow
  exact ⟨_, _, _, _, rfl, w5, st, _, _, _, _, hb5.loadA0 (by kernel_rfl), _, _, rfl, (ow2.chg1 ch (by omega)).mono (by omega), nodup_opt q, ((X.trans y3).trans y4).chg ch (by simp; omega)⟩
end Go.Proofs.YtmajiilehdpdmaaGreat

namespace Go.Proofs.YtmajiilehdpdmaaGreat
open Go Go.Proofs.YtmajiilehdpdmaaGreat.Sx
set_option linter.unusedVariables false
set_option linter.unusedSimpArgs false
theorem lt_of_len {x i : Nat} (h : (digs x).length ≤ i) : x < 1000000000 ^ i := by
  have h1 := val_lt (digs_limbs x)
  rw [val_digs] at h1
  have : ((x : Nat) : Int) < ((1000000000 ^ (digs x).length : Nat) : Int) := by simpa using h1
  exact Nat.lt_of_lt_of_le (Int.ofNat_lt.1 this) (Nat.pow_le_pow_right (by decide) h)
theorem sum_len {x y : Int} {i : Nat} (hx : (digs x.natAbs).length ≤ i) (hy : (digs y.natAbs).length ≤ i) : (digs (x + y).natAbs).length ≤ i + 1 := by
  apply digs_len
  have h1 := lt_of_len hx; have h2 := lt_of_len hy
  have h3 : (x + y).natAbs ≤ x.natAbs + y.natAbs := Int.natAbs_add_le x y
  rw [Nat.pow_succ]
  omega
theorem cross_len {N : Int} {E : Nat} (hN : (digs N.natAbs).length ≤ 18) (hE : (digs E).length ≤ 18) : (digs (N * (E : Int)).natAbs).length ≤ 36 := by
  rw [Int.natAbs_mul, Int.natAbs_natCast]
  exact prod_len hN hE
theorem IntsR.store2 {w w' : World} {r : Nat} {e : TypeId} {b : Bool} {q : Option Addr} {m d : Nat} {p : Option Addr} {n c : Nat} {z : List Int} (hb : Blk w r e [.bool b, .slice q m d]) (h : IntsR w p n c z) (ch : Chg [r] w w') : IntsR w' p n c z := by
  refine ⟨h.1, h.2.1, h.2.2.1, fun hn => ?_⟩
  obtain ⟨k, off, hp, hs⟩ := h.2.2.2 hn
  refine ⟨k, off, hp, hs.chg ch ?_⟩
  intro hm
  simp at hm
  subst hm
  have hl := h.1
  have h1 := hs 0 (.int .i64 (z[0]'(by omega))) (by simp [List.getElem?_eq_getElem (show 0 < z.length by omega)])
  rw [hb.cell] at h1
  generalize off + 0 = i at h1
  match i, h1 with
  | 0, h1 => simp at h1
  | 1, h1 => simp at h1
  | i + 2, h1 => simp at h1
theorem impl_Rat_num_n {w : World} {xs : List Value} {N : Int} {D E : Nat} {p : Option Addr} {m c : Nat} (h : Reps w xs (rmk N D)) (hok : ratOk (rmk N D) = true) (k : IntsR w p m c (digs E)) (hm : m ≤ 100) :
    Ret P n_impl_Rat_num [.agg ⟨xs⟩, .slice p m c] w fun v w' => ∃ vs f, v = .agg ⟨vs⟩ ∧ Owns w' w.heap.size vs (enc (N * E)) f ∧ f.Nodup ∧ Ext w w' := by
  obtain ⟨p1, n1, c1, q1, m1, d1, rfl, i1, i2, li1, li2, he, hd1⟩ := rmk_open h hok
  have ei1 := i1.1; have ek := k.1
  refine impl_Rat_num_ret ?_
  unfold impl_Rat_num
  intro r w1 hn1 r1 w2 hn2
  have e1 := hn1.r_eq; have e2 := hn2.r_eq; have z1 := hn1.size; have z2 := hn2.size
  have D := Ext.drew w2
  have lD := D.le
  have X := (hn1.ext.trans hn2.ext).trans D
  have b0 := (hn1.blk.ext hn2.ext).ext D; have b1 := hn2.blk.ext D
  refine ⟨_, fun W hW => (b0.ext hW).loadAt 0 rfl (by kernel_rfl) rfl, _, _, _, fun W hW => (b0.ext hW).loadAt 1 rfl (by kernel_rfl) rfl, ?_⟩
  refine Ret.at (impl_natMul_c (i1.ext X) (k.ext X) (digs_limbs _) (digs_limbs _) (by omega) (by omega)) ?_
  rintro v w4 ⟨p4, n4, c4, hv, o4, y4⟩
  subst hv
  rw [val_mul] at o4
  refine ⟨_, _, _, rfl, y4, ?_⟩
  refine Ret.at (impl_signed_c (neg := decide (N < 0)) o4.ints.1) ?_
  rintro v w5 ⟨hv, y5⟩
  subst hv
  have sg : N * (E : Int) ≠ 0 → decide (N < 0) = decide (N * (E : Int) < 0) := fun hh => by
    have := mul_sign hh
    rw [← this, decide_eq_false (show ¬ (E : Int) < 0 by omega)]
    cases decide (N < 0) <;> rfl
  obtain ⟨W', st, ld, ow, xx, _, _⟩ := agg_end (t := T_impl_Signed) ((b1.ext y4).ext y5) ((X.trans y4).trans y5) (by omega) (own_int (o4.ext y5) (z := N * (E : Int)) (by rw [Int.natAbs_mul, Int.natAbs_natCast]) sg) (by kernel_rfl) rfl (by omega) (by omega)
  exact ⟨_, _, _, _, rfl, W', st, _, _, _, _, ld, _, _, rfl, ow, nodup_opt p4, xx⟩
theorem impl_RatAdd_n {w : World} {xs ys : List Value} {N1 N2 : Int} {D1 D2 : Nat} (h : Reps w xs (rmk N1 D1)) (g : Reps w ys (rmk N2 D2)) (hok : ratOk (rmk N1 D1) = true) (gok : ratOk (rmk N2 D2) = true) :
    Ret P n_impl_RatAdd [.agg ⟨xs⟩, .agg ⟨ys⟩] w fun v w' => ∃ vs f, v = .tuple #[.agg ⟨vs⟩, .bool (redOk (N1 * D2 + N2 * D1) (D1 * D2))] ∧ Owns w' w.heap.size vs (redR (N1 * D2 + N2 * D1) (D1 * D2)) f ∧ f.Nodup ∧ Ext w w' := by
  have hr := h; have gr := g
  obtain ⟨p1, n1, c1, q1, m1, d1, rfl, i1, i2, li1, li2, he, hd1⟩ := rmk_open h hok
  obtain ⟨p2, n2, c2, q2, m2, d2, rfl, j1, j2, lj1, lj2, ke, hd2⟩ := rmk_open g gok
  have ei1 := i1.1; have ei2 := i2.1; have ej1 := j1.1; have ej2 := j2.1
  have pN := prod_len (x := N1.natAbs) (y := N2.natAbs) (i := 18) (j := 18) (by omega) (by omega)
  have pD := prod_len (x := D1) (y := D2) (i := 18) (j := 18) (by omega) (by omega)
  refine impl_RatAdd_ret ?_
  unfold impl_RatAdd
  intro r w1 hn1 r1 w2 hn2 r2 w3 hn3
  have e1 := hn1.r_eq; have e2 := hn2.r_eq; have e3 := hn3.r_eq; have z1 := hn1.size; have z2 := hn2.size; have z3 := hn3.size
  have X := (hn1.ext.trans hn2.ext).trans hn3.ext
  have b0 := (hn1.blk.ext hn2.ext).ext hn3.ext; have b1 := hn2.blk.ext hn3.ext; have b2 := hn3.blk
  refine ⟨_, _, _, _, _, _, _, b0.loadA0 (by kernel_rfl), _, _, _, _, _, _, _, b1.loadA0 (by kernel_rfl), ?_⟩
  refine Ret.at (impl_ratsOk_c (hr.ext X) (gr.ext X) hok gok) ?_
  rintro v w4 ⟨hv, y4⟩
  subst hv
  refine ⟨_, rfl, ifN (fun hh => absurd hh (by simp)) (fun _ => ?_)⟩
  have D := Ext.drew w4
  have Y := y4.trans D
  have X4 := X.trans Y
  have lY := Y.le
  have b0 := b0.ext Y; have b1 := b1.ext Y; have b2 := b2.ext Y
  have D' := Ext.drew w4.drew
  have X5 := X4.trans D'
  have lD' := D'.le
  have b0' := b0.ext D'; have b1' := b1.ext D'; have b2' := b2.ext D'
  refine ⟨_, _, _, _, _, _, _, fun W hW => (b0.ext hW).loadA0 (by kernel_rfl), _, _, _, _, _, _, _, fun W hW => (b1.ext hW).loadA0 (by kernel_rfl), _, _, _, fun W hW => (b1'.ext hW).loadAt 2 rfl (by kernel_rfl) rfl, _, _, _, rfl, by kernel_rfl, ?_⟩
  refine Calls.mono (impl_Rat_num_n (hr.ext X5) hok (j2.ext X5) (by omega)) ?_
  rintro e w5 ⟨v, he5, vs5, f5, hv, ho5, _, y5⟩
  subst hv
  obtain ⟨s0, sp, sn, sc, sz, rfl, _, _⟩ := open_Signed ho5.reps (enc_code _)
  refine ⟨_, _, _, _, he5, y5, _, _, _, fun W hW => (b0'.ext hW).loadAt 2 rfl (by kernel_rfl) rfl, _, _, _, rfl, by kernel_rfl, ?_⟩
  refine Calls.mono (impl_Rat_num_n (gr.ext (X5.trans y5)) gok (i2.ext (X5.trans y5)) (by omega)) ?_
  rintro e w6 ⟨v, he6, vs6, f6, hv, ho6, _, y6⟩
  subst hv
  obtain ⟨u0, up, un, uc, uz, rfl, _, _⟩ := open_Signed ho6.reps (enc_code _)
  refine ⟨_, _, _, _, he6, y6, ?_⟩
  have t1 := cross_len (N := N1) (E := D2) (by omega) (by omega)
  have t2 := cross_len (N := N2) (E := D1) (by omega) (by omega)
  have t3 := sum_len t1 t2
  refine Ret.at (impl_intAdd_c (ho5.reps.ext y6) ho6.reps (by omega) (by omega)) ?_
  rintro v w7 ⟨p7, n7, c7, hv, o7, y7⟩
  subst hv
  refine ⟨_, _, _, _, rfl, y7, _, _, _, fun W hW => (b0'.ext hW).loadAt 2 rfl (by kernel_rfl) rfl, _, _, _, fun W hW => (b1'.ext hW).loadAt 2 rfl (by kernel_rfl) rfl, ?_⟩
  have Y7 := (y5.trans y6).trans y7
  refine Ret.at (impl_natMul_c (i2.ext (X5.trans Y7)) (j2.ext (X5.trans Y7)) (digs_limbs _) (digs_limbs _) (by omega) (by omega)) ?_
  rintro v w8 ⟨p8, n8, c8, hv, o8, y8⟩
  subst hv
  rw [val_mul] at o8
  have l8 := o8.ints.1
  have lY7 := Y7.le; have ly8 := y8.le
  refine ⟨_, _, _, rfl, ?_⟩
  have hs : Reps w8 [.bool (decide (N1 * (D2 : Int) + N2 * (D1 : Int) < 0)), .slice p7 n7 c7] (enc (N1 * D2 + N2 * D1)) := ⟨rfl, ⟨_, _, _, rfl, o7.ints.ext y8⟩, trivial⟩
  refine Ret.at (impl_reduce_c hs o8.ints (Nat.mul_pos hd1 hd2) (by omega) (by omega)) ?_
  rintro v w99 ⟨vs9, f9, hv, ho9, nd9, y99⟩
  subst hv
  obtain ⟨zb, zp, zn, zc, zz, zp2, zn2, zc2, zz2, rfl, _, _, _⟩ := open_Rat ho9.reps (redR_code _ _)
  obtain ⟨W', st', ld', ow', xx', _, _⟩ := agg_end (t := T_impl_Rat) (((b2'.ext Y7).ext y8).ext y99) (((X5.trans Y7).trans y8).trans y99) (by omega) ho9 (by kernel_rfl) rfl (by omega) (by omega)
  exact ⟨_, _, _, _, _, _, _, _, rfl, W', st', _, _, _, _, _, _, _, ld', _, f9, rfl, ow', nd9, xx'⟩
  
theorem spec_RatAdd_n {w : World} {xs ys : List Value} {N1 N2 : Int} {D1 D2 : Nat} (h : Reps w xs (rmk N1 D1)) (g : Reps w ys (rmk N2 D2)) (hok : ratOk (rmk N1 D1) = true) (gok : ratOk (rmk N2 D2) = true) :
    Ret P n_spec_RatAdd [.agg ⟨xs⟩, .agg ⟨ys⟩] w fun v w' => ∃ vs f, v = .tuple #[.agg ⟨vs⟩, .bool (redOk (N1 * D2 + N2 * D1) (D1 * D2))] ∧ Owns w' w.heap.size vs (redR (N1 * D2 + N2 * D1) (D1 * D2)) f ∧ f.Nodup ∧ Ext w w' := by
  have hr := h; have gr := g
  obtain ⟨p1, n1, c1, q1, m1, d1, rfl, i1, i2, li1, li2, he, hd1⟩ := rmk_open h hok
  obtain ⟨p2, n2, c2, q2, m2, d2, rfl, j1, j2, lj1, lj2, ke, hd2⟩ := rmk_open g gok
  have ei1 := i1.1; have ei2 := i2.1; have ej1 := j1.1; have ej2 := j2.1
  have pN := prod_len (x := N1.natAbs) (y := N2.natAbs) (i := 18) (j := 18) (by omega) (by omega)
  have pD := prod_len (x := D1) (y := D2) (i := 18) (j := 18) (by omega) (by omega)
  refine spec_RatAdd_ret ?_
  unfold spec_RatAdd
  intro r w1 hn1 r1 w2 hn2 r2 w3 hn3
  have e1 := hn1.r_eq; have e2 := hn2.r_eq; have e3 := hn3.r_eq; have z1 := hn1.size; have z2 := hn2.size; have z3 := hn3.size
  have X := (hn1.ext.trans hn2.ext).trans hn3.ext
  have b0 := (hn1.blk.ext hn2.ext).ext hn3.ext; have b1 := hn2.blk.ext hn3.ext; have b2 := hn3.blk
  refine ⟨_, _, _, _, _, _, _, b0.loadA0 (by kernel_rfl), ?_⟩
  refine Ret.at (spec_RatOk_c (hr.ext X) (rmk_code _ _)) ?_
  rintro v w5 ⟨hv, y5⟩
  subst hv
  rw [hok]
  refine ⟨_, rfl, ifN (fun hh => absurd hh (by simp)) (fun _ => ⟨_, _, _, _, _, _, _, (b1.ext y5).loadA0 (by kernel_rfl), ?_⟩)⟩
  refine Ret.at (spec_RatOk_c (gr.ext (X.trans y5)) (rmk_code _ _)) ?_
  rintro v w4 ⟨hv, y4⟩
  subst hv
  rw [gok]
  refine ⟨_, rfl, ifN (fun hh => absurd hh (by simp)) (fun _ => ?_)⟩
  unfold spec_RatAdd_j0
  have D := Ext.drew w4
  have Y := (y5.trans y4).trans D
  have X4 := X.trans Y
  have lY := Y.le
  have b0 := b0.ext Y; have b1 := b1.ext Y; have b2 := b2.ext Y
  refine ⟨_, fun W hW => (b0.ext hW).loadAt 0 rfl (by kernel_rfl) rfl, _, _, _, fun W hW => (b0.ext hW).loadAt 1 rfl (by kernel_rfl) rfl, _, _, _, fun W hW => (b1.ext hW).loadAt 2 rfl (by kernel_rfl) rfl, ?_⟩
  intro ss1 a1 F11
  have S11 := (FlSt.start (o := .cells ⟨[.bool false, .slice none 0 0]⟩ T_impl_Signed (0, 0)) w4.drew).step F11
  refine Ret.at (spec_l02Mul_c (i1.ext (X4.trans F11.ext)) (j2.ext (X4.trans F11.ext)) (digs_limbs _) (digs_limbs _) (by omega) (by omega)) ?_
  rintro v a1b ⟨pa1, na1, ca1, hv, oa1, ya1⟩
  subst hv
  rw [val_digs, val_digs] at oa1
  have la1 := oa1.len
  simp only [List.length_map] at la1
  have ta1 := prod_len (x := N1.natAbs) (y := D2) (i := 18) (j := 18) (by omega) (by omega)
  rw [show N1.natAbs * D2 = ((N1.natAbs : Int) * D2).toNat by rw [← Int.natCast_mul, Int.toNat_natCast]] at ta1
  refine ⟨_, _, _, rfl, ya1, ?_⟩
  intro ss1' a1c F21
  have S21 := (S11.ext ya1).step F21
  refine Ret.at (prod_make (n := N1) (d := D2) (oa1.ints.ext F21.ext) hd2 (by omega)) ?_
  rintro v a1d ⟨ba1, pb1, nb1, cb1, hv, ra1, _, yb1⟩
  subst hv
  refine ⟨_, _, _, _, rfl, ?_⟩
  intro ss1'' a1e r1 F31 G1
  have S31 := (S21.ext yb1).step F31
  obtain ⟨hr1, hbk1⟩ := S31.get G1
  have B1 : Blk a1e r1 T_impl_Signed [.bool false, .slice none 0 0] := hbk1
  obtain ⟨a1f, st1, bb1, ch1, _⟩ := B1.storeA0 (P := P) (t := T_impl_Signed) (xs := [.bool ba1, .slice pb1 nb1 cb1]) (by kernel_rfl) rfl (by simp [Value.oneCell'])
  have Ya1 : Ext w4.drew a1f := S31.1.chg ch1 (by simp; exact hr1)
  have ia1 : Reps a1f [.bool ba1, .slice pb1 nb1 cb1] (enc (N1 * (D2 : Int))) := by
    obtain ⟨h0, ⟨p', n', c', hq, hi⟩, _⟩ := ra1
    cases hq
    exact ⟨h0, ⟨_, _, _, rfl, IntsR.store2 B1 (hi.ext F31.ext) ch1⟩, trivial⟩
  refine ⟨a1f, st1, ?_⟩
  have DA := Ext.drew a1f
  have YA := Ya1.trans DA
  have XA := X4.trans YA
  have c0 := b0.ext YA; have c1 := b1.ext YA; have c2 := b2.ext YA
  have lYA := YA.le
  refine ⟨_, fun W hW => (c1.ext hW).loadAt 0 rfl (by kernel_rfl) rfl, _, _, _, fun W hW => (c1.ext hW).loadAt 1 rfl (by kernel_rfl) rfl, _, _, _, fun W hW => (c0.ext hW).loadAt 2 rfl (by kernel_rfl) rfl, ?_⟩
  intro ss2 a2 F12
  have S12 := (FlSt.start (o := .cells ⟨[.bool false, .slice none 0 0]⟩ T_impl_Signed (0, 0)) a1f.drew).step F12
  refine Ret.at (spec_l02Mul_c (j1.ext (XA.trans F12.ext)) (i2.ext (XA.trans F12.ext)) (digs_limbs _) (digs_limbs _) (by omega) (by omega)) ?_
  rintro v a2b ⟨pa2, na2, ca2, hv, oa2, ya2⟩
  subst hv
  rw [val_digs, val_digs] at oa2
  have la2 := oa2.len
  simp only [List.length_map] at la2
  have ta2 := prod_len (x := N2.natAbs) (y := D1) (i := 18) (j := 18) (by omega) (by omega)
  rw [show N2.natAbs * D1 = ((N2.natAbs : Int) * D1).toNat by rw [← Int.natCast_mul, Int.toNat_natCast]] at ta2
  refine ⟨_, _, _, rfl, ya2, ?_⟩
  intro ss2' a2c F22
  have S22 := (S12.ext ya2).step F22
  refine Ret.at (prod_make (n := N2) (d := D1) (oa2.ints.ext F22.ext) hd1 (by omega)) ?_
  rintro v a2d ⟨ba2, pb2, nb2, cb2, hv, ra2, _, yb2⟩
  subst hv
  refine ⟨_, _, _, _, rfl, ?_⟩
  intro ss2'' a2e r2 F32 G2
  have S32 := (S22.ext yb2).step F32
  obtain ⟨hr2, hbk2⟩ := S32.get G2
  have B2 : Blk a2e r2 T_impl_Signed [.bool false, .slice none 0 0] := hbk2
  obtain ⟨a2f, st2, bb2, ch2, _⟩ := B2.storeA0 (P := P) (t := T_impl_Signed) (xs := [.bool ba2, .slice pb2 nb2 cb2]) (by kernel_rfl) rfl (by simp [Value.oneCell'])
  have Ya2 : Ext a1f.drew a2f := S32.1.chg ch2 (by simp; exact hr2)
  have ia2 : Reps a2f [.bool ba2, .slice pb2 nb2 cb2] (enc (N2 * (D1 : Int))) := by
    obtain ⟨h0, ⟨p', n', c', hq, hi⟩, _⟩ := ra2
    cases hq
    exact ⟨h0, ⟨_, _, _, rfl, IntsR.store2 B2 (hi.ext F32.ext) ch2⟩, trivial⟩
  refine ⟨a2f, st2, ?_⟩
  have XB := XA.trans Ya2
  have lYB := Ya2.le
  have g0 := c0.ext Ya2; have g1 := c1.ext Ya2; have g2 := c2.ext Ya2
  have k1 := (bb1.ext DA).ext Ya2
  have t1 := cross_len (N := N1) (E := D2) (by omega) (by omega)
  have t2 := cross_len (N := N2) (E := D1) (by omega) (by omega)
  have t3 := sum_len t1 t2
  refine ⟨_, _, _, _, k1.loadA0 (by kernel_rfl), _, _, _, _, bb2.loadA0 (by kernel_rfl), ?_⟩
  refine Ret.at (spec_l04Add_c ((ia1.ext DA).ext Ya2) ia2 (by omega) (by omega)) ?_
  rintro v w7 ⟨vs7, f7, hv, ho7, _, y7⟩
  subst hv
  rw [icap_fit (by omega)] at ho7
  have hr7 := ho7.reps
  obtain ⟨u0, up, un, uc, uz, rfl, hu, ui⟩ := open_Signed hr7 (enc_code _)
  simp only [enc, List.cons.injEq, D0.bool.injEq, D0.ints.injEq, and_true] at hu
  obtain ⟨rfl, rfl⟩ := hu
  refine ⟨_, _, _, _, rfl, ?_⟩
  intro r5 w8 hn8
  obtain ⟨w9, st9, hb9, y9⟩ := hn8.fill (P := P) (t := T_impl_Signed) (xs := [.bool (decide (N1 * (D2 : Int) + N2 * (D1 : Int) < 0)), .slice up un uc]) (by simp [Value.oneCell']) (by kernel_rfl) rfl
  refine ⟨w9, st9, ?_⟩
  have D9 := Ext.drew w9
  have Y9 := (y7.trans y9).trans D9
  have X9 := XB.trans Y9
  have lY9 := Y9.le
  have g0 := g0.ext Y9; have g1 := g1.ext Y9; have g2 := g2.ext Y9; have hb9 := hb9.ext D9
  have ui9 := (ui.ext y9).ext D9
  have lui := ui.1
  refine ⟨_, fun W hW => (hb9.ext hW).loadAt 0 rfl (by kernel_rfl) rfl, _, _, _, fun W hW => (hb9.ext hW).loadAt 1 rfl (by kernel_rfl) rfl, _, _, _, fun W hW => (g0.ext hW).loadAt 2 rfl (by kernel_rfl) rfl, _, _, _, fun W hW => (g1.ext hW).loadAt 2 rfl (by kernel_rfl) rfl, ?_⟩
  refine Ret.at (spec_l02Mul_c (i2.ext X9) (j2.ext X9) (digs_limbs _) (digs_limbs _) (by omega) (by omega)) ?_
  rintro v w10 ⟨p10, n10, c10, hv, o10, y10⟩
  subst hv
  rw [val_mul] at o10
  have l10 := o10.ints.1
  have ly10 := y10.le
  refine ⟨_, _, _, rfl, y10, ?_⟩
  refine Ret.at (spec_l05Low_c (n := N1 * D2 + N2 * D1) (ui9.ext y10) o10.ints (fun _ => rfl) (Nat.mul_pos hd1 hd2) (by omega) (by omega)) ?_
  rintro v w99 ⟨vs9, f9, hv, ho9, nd9, y99⟩
  subst hv
  obtain ⟨zb, zp, zn, zc, zz, zp2, zn2, zc2, zz2, rfl, _, _, _⟩ := open_Rat ho9.reps (redR_code _ _)
  obtain ⟨W', st', ld', ow', xx', _, _⟩ := agg_end (t := T_impl_Rat) ((g2.ext y10).ext y99) ((X9.trans y10).trans y99) (by omega) ho9 (by kernel_rfl) rfl (by omega) (by omega)
  exact ⟨_, _, _, _, _, _, _, _, rfl, W', st', _, _, _, _, _, _, _, ld', _, f9, rfl, ow', nd9, xx'⟩
  
end Go.Proofs.YtmajiilehdpdmaaGreat

namespace Go.Proofs.YtmajiilehdpdmaaGreat
set_option linter.unusedVariables false
set_option linter.unusedSimpArgs false
theorem red_scale {n : Int} {d k : Nat} (hk : 0 < k) : redN (n * (k : Int)) (d * k) = redN n d ∧ redD (n * (k : Int)) (d * k) = redD n d := by
  have ha : (n * (k : Int)).natAbs = n.natAbs * k := by rw [Int.natAbs_mul, Int.natAbs_natCast]
  have hg : Nat.gcd (n.natAbs * k) (d * k) = Nat.gcd n.natAbs d * k := Nat.gcd_mul_right _ _ _
  have h1 : n.natAbs * k / (Nat.gcd n.natAbs d * k) = n.natAbs / Nat.gcd n.natAbs d := Nat.mul_div_mul_right _ _ hk
  have h2 : d * k / (Nat.gcd n.natAbs d * k) = d / Nat.gcd n.natAbs d := Nat.mul_div_mul_right _ _ hk
  refine ⟨?_, by unfold redD; rw [ha, hg, h2]⟩
  unfold redN
  rw [ha, hg, h1]
  by_cases h : n < 0
  · have : n * (k : Int) < 0 := Int.mul_neg_of_neg_of_pos h (by omega)
    rw [if_pos h, if_pos this]
  · have : 0 ≤ n * (k : Int) := Int.mul_nonneg (by omega) (by omega)
    rw [if_neg h, if_neg (by omega)]
theorem red_cross {n n' : Int} {d d' : Nat} (hd : 0 < d) (hd' : 0 < d') (h : n * (d' : Int) = n' * (d : Int)) : redN n d = redN n' d' ∧ redD n d = redD n' d' := by
  have h1 := red_scale (n := n) (d := d) hd'
  have h2 := red_scale (n := n') (d := d') hd
  rw [h, Nat.mul_comm d d'] at h1
  exact ⟨h1.1.symm.trans h2.1, h1.2.symm.trans h2.2⟩
theorem redOk_eq (n : Int) (d : Nat) : redOk n d = (decide ((digs (redN n d).natAbs).length ≤ 18) && decide ((digs (redD n d)).length ≤ 18)) := by rw [redN_abs]; rfl
theorem redR_cross {n n' : Int} {d d' : Nat} (hd : 0 < d) (hd' : 0 < d') (h : n * (d' : Int) = n' * (d : Int)) : redR n d = redR n' d' ∧ redOk n d = redOk n' d' := by
  obtain ⟨h1, h2⟩ := red_cross hd hd' h
  have h3 : redOk n d = redOk n' d' := by rw [redOk_eq, redOk_eq, h1, h2]
  exact ⟨by unfold redR; rw [h1, h2, h3], h3⟩
theorem red_eq {n : Int} {d : Nat} (hd : 0 < d) : redN n d * (d : Int) = n * (redD n d : Int) := by
  have h1 : n.natAbs / Nat.gcd n.natAbs d * Nat.gcd n.natAbs d = n.natAbs := Nat.div_mul_cancel (Nat.gcd_dvd_left _ _)
  have h2 : d / Nat.gcd n.natAbs d * Nat.gcd n.natAbs d = d := Nat.div_mul_cancel (Nat.gcd_dvd_right _ _)
  have h3 : n.natAbs / Nat.gcd n.natAbs d * d = n.natAbs * (d / Nat.gcd n.natAbs d) := by
    generalize n.natAbs / Nat.gcd n.natAbs d = q at h1 ⊢
    generalize d / Nat.gcd n.natAbs d = r at h2 ⊢
    generalize Nat.gcd n.natAbs d = g at h1 h2
    rw [← h1, ← h2, Nat.mul_assoc, Nat.mul_comm g r]
  have h4 : ((n.natAbs / Nat.gcd n.natAbs d : Nat) : Int) * (d : Int) = (n.natAbs : Int) * ((d / Nat.gcd n.natAbs d : Nat) : Int) := by
    rw [← Int.natCast_mul, ← Int.natCast_mul, h3]
  unfold redN redD
  by_cases h : n < 0
  · rw [if_pos h, Int.neg_mul, h4, ← Int.neg_mul]
    congr 1
    omega
  · rw [if_neg h, h4]
    congr 1
    omega
theorem red_add {V v : Int} {X : Nat} (hX : 0 < X) : redR (redN V X * (redD v X : Int) + redN v X * (redD V X : Int)) (redD V X * redD v X) = redR (V + v) X ∧ redOk (redN V X * (redD v X : Int) + redN v X * (redD V X : Int)) (redD V X * redD v X) = redOk (V + v) X := by
  have h1 := red_eq (n := V) hX; have h2 := red_eq (n := v) hX
  have p1 : 0 < redD V X := redD_pos hX
  have p2 : 0 < redD v X := redD_pos hX
  refine redR_cross (Nat.mul_pos p1 p2) hX ?_
  generalize redN V X = N1 at *
  generalize redN v X = N2 at *
  generalize redD V X = D1 at *
  generalize redD v X = D2 at *
  rw [Int.natCast_mul, Int.add_mul, Int.add_mul]
  congr 1
  · rw [Int.mul_right_comm, h1, Int.mul_assoc]
  · rw [Int.mul_right_comm, h2, Int.mul_assoc, Int.mul_comm (D2 : Int)]
theorem red_dec {c m t : Nat} (ht : t ≤ 30) : redR ((c : Int) * redN (m : Int) (10 ^ t)) (1 * redD (m : Int) (10 ^ t)) = redR ((c * m * 10 ^ (30 - t) : Nat) : Int) (10 ^ 30) ∧ redOk ((c : Int) * redN (m : Int) (10 ^ t)) (1 * redD (m : Int) (10 ^ t)) = redOk ((c * m * 10 ^ (30 - t) : Nat) : Int) (10 ^ 30) := by
  have hpow : 0 < 10 ^ t := Nat.pow_pos (by decide)
  have h1 := red_eq (n := (m : Int)) hpow
  have p1 : 0 < redD (m : Int) (10 ^ t) := redD_pos hpow
  refine redR_cross (by omega) (Nat.pow_pos (by decide)) ?_
  have hX : (10 ^ 30 : Nat) = 10 ^ t * 10 ^ (30 - t) := by rw [← Nat.pow_add]; congr 1; omega
  rw [hX, Nat.one_mul, Int.natCast_mul, Int.natCast_mul, Int.natCast_mul]
  generalize redN (m : Int) (10 ^ t) = N at *
  generalize redD (m : Int) (10 ^ t) = D at *
  generalize ((10 ^ t : Nat) : Int) = A at *
  generalize ((10 ^ (30 - t) : Nat) : Int) = B at *
  rw [Int.mul_assoc, ← Int.mul_assoc N, h1]
  simp only [Int.mul_assoc]
  congr 2
  exact Int.mul_comm _ _
end Go.Proofs.YtmajiilehdpdmaaGreat

namespace Go.Proofs.YtmajiilehdpdmaaGreat
open Go Go.Proofs.YtmajiilehdpdmaaGreat.Sx
set_option linter.unusedVariables false
set_option linter.unusedSimpArgs false
def taxOk : List D0 → Bool
  | [.bool b, .ints z, .int s] => decOk [.bool b, .ints z, .int s] && decide (z.length ≤ 1) && !b && decide (dcmp [.bool b, .ints z, .int s] (enc 1 ++ [.int 0]) ≤ 0)
  | _ => false
theorem spec_TaxRateOk_c {w : World} {xs : List Value} {dx : List D0} (h : Reps w xs dx) (hc : dx.map D0.code = [.bool, .ints, .int]) :
    Ret P n_spec_TaxRateOk [.agg ⟨xs⟩] w fun v w' => v = .bool (taxOk dx) ∧ Ext w w' := by
  have hr := h
  obtain ⟨a0, a1p, a1n, a1c, a1z, a2, rfl, rfl, ha⟩ := open_Dec h hc
  refine spec_TaxRateOk_ret ?_
  unfold spec_TaxRateOk
  intro r w1 hn1
  have D := Ext.drew w1
  have X := hn1.ext.trans D
  have hl := ha.1
  refine ⟨_, _, _, _, _, fun W hW => (hn1.blk.ext (D.trans hW)).loadA0 (by kernel_rfl), ?_⟩
  refine Ret.at (spec_DecOk_c (hr.ext X) rfl) ?_
  rintro v w2 ⟨hv, y2⟩
  subst hv
  have X2 := X.trans y2
  have b := (hn1.blk.ext D).ext y2
  refine ⟨_, rfl, fun e1 => ⟨_, fun W hW => (b.ext hW).loadAt 0 rfl (by kernel_rfl) rfl, fun e2 => ⟨_, _, _, fun W hW => (b.ext hW).loadAt 1 rfl (by kernel_rfl) rfl, ifD (fun hle => ?_) (fun hgt => ⟨?_, X2⟩)⟩, fun e2 => ifF ⟨?_, X2⟩⟩, fun e1 => ifF (ifF ⟨?_, X2⟩)⟩
  · refine ⟨_, _, _, _, _, fun W hW => (b.ext hW).loadA0 (by kernel_rfl), ?_⟩
    refine Ret.at (spec_IntOf_c (n := 1) (by omega) (by omega)) ?_
    rintro v w3 ⟨vs, f, hv, ho, _, y3⟩
    subst hv
    obtain ⟨g0, gp, gn, gc, gz, rfl, hg, hgi⟩ := open_Signed ho.reps (enc_code _)
    refine ⟨_, _, _, _, rfl, y3, ?_⟩
    have hone : Reps w3 [.bool g0, .slice gp gn gc, .int .i64 0] (enc 1 ++ [.int 0]) := by
      rw [hg]; exact ⟨rfl, ⟨_, _, _, rfl, hgi⟩, rfl, trivial⟩
    refine Ret.at (spec_DecCmp_c (hr.ext (X2.trans y3)) hone rfl rfl) ?_
    rintro v w4 ⟨hv, y4⟩
    subst hv
    refine ⟨_, rfl, ?_, (X2.trans y3).trans y4⟩
    have e2 : a0 = false := by simpa using e2
    subst e2
    simp only [taxOk, e1, show decide (a1z.length ≤ 1) = true by simp; omega, Bool.and_self, Bool.not_false, Bool.true_and]
  · simp only [taxOk, show decide (a1z.length ≤ 1) = false by simp; omega, Bool.and_false, Bool.false_and]
  · have e2 : a0 = true := by simpa using e2
    simp only [taxOk, e2, Bool.not_true, Bool.and_false, Bool.false_and]
  · simp only [taxOk, e1, Bool.false_and]
theorem impl_TaxRateOk_c {w : World} {xs : List Value} {dx : List D0} (h : Reps w xs dx) (hc : dx.map D0.code = [.bool, .ints, .int]) :
    Ret P n_impl_TaxRateOk [.agg ⟨xs⟩] w fun v w' => v = .bool (taxOk dx) ∧ Ext w w' := by
  have hr := h
  obtain ⟨a0, a1p, a1n, a1c, a1z, a2, rfl, rfl, ha⟩ := open_Dec h hc
  refine impl_TaxRateOk_ret ?_
  unfold impl_TaxRateOk
  intro r w1 hn1
  have D := Ext.drew w1
  have X := hn1.ext.trans D
  have hl := ha.1
  refine ⟨_, _, _, _, _, fun W hW => (hn1.blk.ext (D.trans hW)).loadA0 (by kernel_rfl), ?_⟩
  refine Ret.at (impl_DecOk_c (hr.ext X) rfl) ?_
  rintro v w2 ⟨hv, y2⟩
  subst hv
  have X2 := X.trans y2
  have b := (hn1.blk.ext D).ext y2
  refine ⟨_, rfl, fun e1 => ⟨_, _, _, fun W hW => (b.ext hW).loadAt 1 rfl (by kernel_rfl) rfl, ifD (fun hle => ⟨_, fun W hW => (b.ext hW).loadAt 0 rfl (by kernel_rfl) rfl, fun e2 => ?_, fun e2 => ⟨?_, X2⟩⟩) (fun hgt => ifF ⟨?_, X2⟩)⟩, fun e1 => ifF (ifF ⟨?_, X2⟩)⟩
  · refine ⟨_, _, _, _, _, fun W hW => (b.ext hW).loadA0 (by kernel_rfl), ?_⟩
    refine Ret.at (impl_IntOf_c (n := 1) (by omega) (by omega)) ?_
    rintro v w3 ⟨vs, f, hv, ho, _, y3⟩
    subst hv
    obtain ⟨g0, gp, gn, gc, gz, rfl, hg, hgi⟩ := open_Signed ho.reps (enc_code _)
    refine ⟨_, _, _, _, rfl, y3, ?_⟩
    have hone : Reps w3 [.bool g0, .slice gp gn gc, .int .i64 0] (enc 1 ++ [.int 0]) := by
      rw [hg]; exact ⟨rfl, ⟨_, _, _, rfl, hgi⟩, rfl, trivial⟩
    refine Ret.at (impl_DecCmp_c (hr.ext (X2.trans y3)) hone rfl rfl) ?_
    rintro v w4 ⟨hv, y4⟩
    subst hv
    refine ⟨_, rfl, ?_, (X2.trans y3).trans y4⟩
    have e2 : a0 = false := by simpa using e2
    subst e2
    simp only [taxOk, e1, show decide (a1z.length ≤ 1) = true by simp; omega, Bool.and_self, Bool.not_false, Bool.true_and]
  · have e2 : a0 = true := by simpa using e2
    simp only [taxOk, e2, Bool.not_true, Bool.and_false, Bool.false_and]
  · simp only [taxOk, show decide (a1z.length ≤ 1) = false by simp; omega, Bool.and_false, Bool.false_and]
  · simp only [taxOk, e1, Bool.false_and]
end Go.Proofs.YtmajiilehdpdmaaGreat

namespace Go.Proofs.YtmajiilehdpdmaaGreat
open Go Go.Proofs.YtmajiilehdpdmaaGreat.Sx
set_option linter.unusedVariables false
set_option linter.unusedSimpArgs false
def stepFrom : List D0 → Int
  | .int n :: _ => n
  | _ => 0
def stepOk (l : List (List D0)) (i : Nat) : Bool := decide (0 ≤ stepFrom (l.getD i []) ∧ stepFrom (l.getD i []) ≤ 1000000000) && taxOk ((l.getD i []).drop 1) && !(decide (0 < i) && decide (stepFrom (l.getD i []) ≤ stepFrom (l.getD (i - 1) [])))
def stepsOk (l : List (List D0)) : Bool := decide (1 ≤ l.length ∧ l.length ≤ 8) && decide (stepFrom (l.getD 0 []) = 0) && (List.range l.length).all (stepOk l)
theorem steps_no {l : List (List D0)} {i : Nat} (hi : i < l.length) (h : stepOk l i = false) : stepsOk l = false := by
  unfold stepsOk
  have : (List.range l.length).all (stepOk l) = false := by
    rw [Bool.eq_false_iff]
    intro ha
    rw [List.all_eq_true] at ha
    have := ha i (List.mem_range.2 hi)
    rw [h] at this; cases this
  rw [this, Bool.and_false]
theorem steps_yes {l : List (List D0)} (h1 : 1 ≤ l.length ∧ l.length ≤ 8) (h2 : stepFrom (l.getD 0 []) = 0) (h : ∀ i < l.length, stepOk l i = true) : stepsOk l = true := by
  unfold stepsOk
  have : (List.range l.length).all (stepOk l) = true := by
    rw [List.all_eq_true]
    exact fun i hi => h i (List.mem_range.1 hi)
  rw [this, decide_eq_true h1, decide_eq_true h2]; rfl
theorem getD_lt {α : Type} {l : List α} {i : Nat} {d : α} (h : i < l.length) : l.getD i d = l[i] := by
  rw [List.getD_eq_getElem?_getD, List.getElem?_eq_getElem h]; rfl
theorem spec_StepsOk_c {w : World} {p : Option Addr} {n c : Nat} {l : List (List D0)} (h : RowsR w 4 p n c l) (hc : ∀ x ∈ l, x.map D0.code = [.int, .bool, .ints, .int]) :
    Ret P n_spec_StepsOk [.slice p n c] w fun v w' => v = .bool (stepsOk l) ∧ Ext w w' := by
  have hz := h.1; have hcap := h.2.1; have hcm := h.2.2.1
  refine spec_StepsOk_ret ?_
  unfold spec_StepsOk
  refine Ret.at (spec_l01In_c _ _ _ w) ?_
  rintro v w1 ⟨hv, hw⟩
  subst hv; subst hw
  refine ⟨_, rfl, ifN (fun hno => ifT ⟨?_, Ext.refl _⟩) (fun hok => ?_)⟩
  · have hno := of_decide_eq_false hno
    unfold stepsOk
    rw [show decide (1 ≤ l.length ∧ l.length ≤ 8) = false by simp; omega]
    rfl
  have hok := of_decide_eq_true hok
  have hlen : 1 ≤ l.length ∧ l.length ≤ 8 := by omega
  obtain ⟨a, cs, hp, hk, hr, hl⟩ := h.at (P := P) (t := T_impl_Step) (by kernel_rfl) (i := 0) (by omega)
  obtain ⟨b, off, hpp, hs⟩ := h.2.2.2 (by omega)
  have first : ∀ i (hi : i < l.length), ∀ W, Ext w1 W → Loads P T_int (((⟨b, off, none⟩ : Addr).add (i * 4)).add 0) (.int .i64 (stepFrom (l.getD i []))) W := by
    intro i hi W hW
    obtain ⟨cs, hk, hr, hsg⟩ := hs i _ (List.getElem?_eq_getElem hi)
    obtain ⟨a0, a1, a2p, a2n, a2c, a2z, a3, rfl, hd, _⟩ := open_Step hr (hc _ (List.getElem_mem hi))
    rw [getD_lt hi, hd]
    exact (hsg.ext hW).loadAt 0 (by simp [Addr.add]) (by kernel_rfl) rfl
  subst hpp
  refine ⟨⟨by omega, by omega⟩, _, by simpa using first 0 (by omega) w1 (Ext.refl _), ifD (fun hne => ⟨?_, Ext.refl _⟩) (fun he => ?_)⟩
  · unfold stepsOk
    rw [show decide (stepFrom (l.getD 0 []) = 0) = false by simpa using hne, Bool.and_false]
    rfl
  have he : stepFrom (l.getD 0 []) = 0 := by simpa using he
  unfold spec_StepsOk_j0
  refine ⟨fun i wr => ∃ j : Nat, i = j ∧ j ≤ n ∧ Ext w1 wr ∧ ∀ i < j, stepOk l i = true, fun i _ => n - i.toNat, ⟨0, rfl, by omega, Ext.refl _, by simp⟩, ?_⟩
  intro junk wr i ⟨j, hij, hj, hx, hall⟩
  subst hij
  refine ifD (fun hlt => ?_) (fun hge => ⟨?_, hx⟩)
  · have hjn : j < n := by omega
    have hjl : j < l.length := by omega
    obtain ⟨a, cs, hp, hk, hr, hl⟩ := (h.ext hx).at (P := P) (t := T_impl_Step) (by kernel_rfl) hjn
    cases hp
    have hrr := hr; have hcode := hc _ (List.getElem_mem hjl)
    obtain ⟨a0, a1, a2p, a2n, a2c, a2z, a3, rfl, hd, ha⟩ := open_Step hr hcode
    have hgd : l.getD j [] = [.int a0, .bool a1, .ints a2z, .int a3] := by rw [getD_lt hjl, hd]
    refine ⟨⟨by omega, by omega⟩, _, _, _, _, _, _, by simpa using hl, ?_⟩
    intro r w2 hn2
    obtain ⟨w3, st, hb3, y3⟩ := hn2.fill (P := P) (t := T_impl_Step) hrr.cells1 (by kernel_rfl) rfl
    have D := Ext.drew w3
    have x3 := (hx.trans y3).trans D
    have hb4 := hb3.ext D
    refine ⟨w3, st, _, fun W hW => (hb4.ext hW).loadAt 0 rfl (by kernel_rfl) rfl, ?_⟩
    refine Ret.at (spec_l01In_c _ _ _ _) ?_
    rintro v w4 ⟨hv, hw⟩
    subst hv; subst hw
    refine ⟨_, rfl, ifN (fun hno => ifT (ifT ⟨?_, x3⟩)) (fun hin => ?_)⟩
    · rw [steps_no hjl]
      simp only [stepOk, hgd, stepFrom, hno, Bool.false_and]
    refine ⟨_, _, _, _, _, fun W hW => (hb4.ext hW).loadAAt 1 [.bool a1, .slice a2p a2n a2c, .int .i64 a3] rfl (by kernel_rfl) rfl, ?_⟩
    have hdec : Reps w3.drew [.bool a1, .slice a2p a2n a2c, .int .i64 a3] [.bool a1, .ints a2z, .int a3] := ⟨rfl, ⟨_, _, _, rfl, ha.ext (y3.trans D)⟩, rfl, trivial⟩
    refine Ret.at (spec_TaxRateOk_c hdec rfl) ?_
    rintro v w5 ⟨hv, y5⟩
    subst hv
    have x5 := x3.trans y5
    have next : ∀ W, Ext w1 W → stepOk l j = true → ∃ t48 : Int, t48 = IntKind.wrap .i64 ((j : Int) + 1) ∧ (fun (i : Int) (wr : World) => ∃ j : Nat, i = j ∧ j ≤ n ∧ Ext w1 wr ∧ ∀ i < j, stepOk l i = true) t48 W ∧ (fun (i : Int) (_ : World) => n - i.toNat) t48 W < (fun (i : Int) (_ : World) => n - i.toNat) (j : Int) wr := by
      intro W hW hs
      refine exW ⟨by omega, by omega⟩ ⟨⟨j + 1, by omega, by omega, hW, fun i hi => ?_⟩, ?_⟩
      · rcases Nat.lt_or_ge i j with h | h
        · exact hall i h
        · have : i = j := by omega
          subst this; exact hs
      · show n - ((j : Int) + 1).toNat < n - (j : Int).toNat
        omega
    refine ⟨_, rfl, ifN (fun hno => ifT ⟨?_, x5⟩) (fun htax => ?_)⟩
    · rw [steps_no hjl]
      simp only [stepOk, hgd, stepFrom, List.drop_succ_cons, List.drop_zero, hno, Bool.and_false, Bool.false_and]
    refine ifD (fun hpos => ?_) (fun hzero => ifF (next _ x5 ?_))
    · refine exW ⟨by omega, by omega⟩ ⟨⟨by omega, by omega⟩, stepFrom (l.getD (j - 1) []), fun W hW => ?_, _, fun W hW => ((hb4.ext y5).ext hW).loadAt 0 rfl (by kernel_rfl) rfl, ifD (fun hle => ⟨?_, x5⟩) (fun hgt => next _ x5 ?_)⟩
      · have := first (j - 1) (by omega) W (x5.trans hW)
        rw [show ((j : Int) - 1).toNat = j - 1 by omega]
        exact this
      · rw [steps_no hjl]
        simp only [stepOk, hgd]
        rw [decide_eq_true (show stepFrom [.int a0, .bool a1, .ints a2z, .int a3] ≤ stepFrom (l.getD (j - 1) []) from hle), decide_eq_true (show 0 < j by omega)]
        simp
      · simp only [stepOk, hgd]
        rw [decide_eq_false (show ¬ stepFrom [.int a0, .bool a1, .ints a2z, .int a3] ≤ stepFrom (l.getD (j - 1) []) from hgt)]
        simp only [stepFrom, List.drop_succ_cons, List.drop_zero, htax, Bool.and_false, Bool.not_false, Bool.and_true]
        exact hin
    · have h0 : j = 0 := by omega
      subst h0
      simp only [stepOk, hgd, stepFrom, List.drop_succ_cons, List.drop_zero, htax, Nat.lt_irrefl, decide_false, Bool.false_and, Bool.not_false, Bool.and_true]
      exact hin
  · rw [steps_yes hlen he (fun i hi => hall i (by omega))]
theorem impl_StepsOk_c {w : World} {p : Option Addr} {n c : Nat} {l : List (List D0)} (h : RowsR w 4 p n c l) (hc : ∀ x ∈ l, x.map D0.code = [.int, .bool, .ints, .int]) :
    Ret P n_impl_StepsOk [.slice p n c] w fun v w' => v = .bool (stepsOk l) ∧ Ext w w' := by
  have hz := h.1; have hcap := h.2.1; have hcm := h.2.2.1
  refine impl_StepsOk_ret ?_
  unfold impl_StepsOk
  have bad : ¬ (1 ≤ l.length ∧ l.length ≤ 8) → stepsOk l = false := fun hno => by
    unfold stepsOk
    rw [show decide (1 ≤ l.length ∧ l.length ≤ 8) = false by simpa using hno]
    rfl
  refine ifD (fun hlt => ifT (ifT ⟨by rw [bad (by omega)], Ext.refl _⟩)) (fun hge1 => ifD (fun hgt => ifT ⟨by rw [bad (by omega)], Ext.refl _⟩) (fun hle8 => ?_))
  have hlen : 1 ≤ l.length ∧ l.length ≤ 8 := by omega
  obtain ⟨b, off, hpp, hs⟩ := h.2.2.2 (by omega)
  have first : ∀ i (hi : i < l.length), ∀ W, Ext w W → Loads P T_int (((⟨b, off, none⟩ : Addr).add (i * 4)).add 0) (.int .i64 (stepFrom (l.getD i []))) W := by
    intro i hi W hW
    obtain ⟨cs, hk, hr, hsg⟩ := hs i _ (List.getElem?_eq_getElem hi)
    obtain ⟨a0, a1, a2p, a2n, a2c, a2z, a3, rfl, hd, _⟩ := open_Step hr (hc _ (List.getElem_mem hi))
    rw [getD_lt hi, hd]
    exact (hsg.ext hW).loadAt 0 (by simp [Addr.add]) (by kernel_rfl) rfl
  subst hpp
  refine ⟨⟨by omega, by omega⟩, _, by simpa using first 0 (by omega) w (Ext.refl _), ifD (fun hne => ⟨?_, Ext.refl _⟩) (fun he => ?_)⟩
  · unfold stepsOk
    rw [show decide (stepFrom (l.getD 0 []) = 0) = false by simpa using hne, Bool.and_false]
    rfl
  have he : stepFrom (l.getD 0 []) = 0 := by simpa using he
  unfold impl_StepsOk_j0
  refine ⟨fun i wr => ∃ j : Nat, i = j ∧ j ≤ n ∧ Ext w wr ∧ ∀ i < j, stepOk l i = true, fun i _ => n - i.toNat, ⟨0, rfl, by omega, Ext.refl _, by simp⟩, ?_⟩
  intro junk wr i ⟨j, hij, hj, hx, hall⟩
  subst hij
  refine ifD (fun hlt => ?_) (fun hge => ⟨?_, hx⟩)
  · have hjn : j < n := by omega
    have hjl : j < l.length := by omega
    obtain ⟨a, cs, hp, hk, hr, hl⟩ := (h.ext hx).at (P := P) (t := T_impl_Step) (by kernel_rfl) hjn
    cases hp
    have hrr := hr; have hcode := hc _ (List.getElem_mem hjl)
    obtain ⟨a0, a1, a2p, a2n, a2c, a2z, a3, rfl, hd, ha⟩ := open_Step hr hcode
    have hgd : l.getD j [] = [.int a0, .bool a1, .ints a2z, .int a3] := by rw [getD_lt hjl, hd]
    have hprev : 0 < j → 0 ≤ stepFrom (l.getD (j - 1) []) := fun h0 => by
      have := hall (j - 1) (by omega)
      simp only [stepOk, Bool.and_eq_true, decide_eq_true_eq] at this
      exact this.1.1.1
    have h00 : j = 0 → a0 = 0 := fun h0 => by
      subst h0
      rw [hgd] at he; exact he
    refine ⟨⟨by omega, by omega⟩, _, _, _, _, _, _, by simpa using hl, ?_⟩
    intro r w2 hn2
    obtain ⟨w3, st, hb3, y3⟩ := hn2.fill (P := P) (t := T_impl_Step) hrr.cells1 (by kernel_rfl) rfl
    have D := Ext.drew w3
    have x3 := (hx.trans y3).trans D
    have hb4 := hb3.ext D
    have next : ∀ W, Ext w W → stepOk l j = true → ∃ t48 : Int, t48 = IntKind.wrap .i64 ((j : Int) + 1) ∧ (fun (i : Int) (wr : World) => ∃ j : Nat, i = j ∧ j ≤ n ∧ Ext w wr ∧ ∀ i < j, stepOk l i = true) t48 W ∧ (fun (i : Int) (_ : World) => n - i.toNat) t48 W < (fun (i : Int) (_ : World) => n - i.toNat) (j : Int) wr := by
      intro W hW hs
      refine exW ⟨by omega, by omega⟩ ⟨⟨j + 1, by omega, by omega, hW, fun i hi => ?_⟩, ?_⟩
      · rcases Nat.lt_or_ge i j with h | h
        · exact hall i h
        · have : i = j := by omega
          subst this; exact hs
      · show n - ((j : Int) + 1).toNat < n - (j : Int).toNat
        omega
    have hdec : Reps w3.drew [.bool a1, .slice a2p a2n a2c, .int .i64 a3] [.bool a1, .ints a2z, .int a3] := ⟨rfl, ⟨_, _, _, rfl, ha.ext (y3.trans D)⟩, rfl, trivial⟩
    -- the rate, when the rest is well
    have rate : (0 ≤ a0 ∧ a0 ≤ 1000000000) → (0 < j → stepFrom (l.getD (j - 1) []) < a0) → ∃ (t470 : Bool) (t471_p : Option Addr) (t471_n : Nat) (t471_c : Nat) (t472 : Int), (∀ wv_8, Ext w3.drew wv_8 → Loads P T_impl_Dec ((⟨r, 0, none⟩ : Addr).add 1) (.agg #[(.bool t470), (.slice t471_p t471_n t471_c), (.int .i64 t472)]) wv_8) ∧ Calls P n_impl_TaxRateOk ⟨[(.agg #[(.bool t470), (.slice t471_p t471_n t471_c), (.int .i64 t472)])]⟩ w3.drew fun e_1 wv_9 =>
        ∃ (t48 : Bool), e_1 = .returned (.bool t48) ∧
        ((!t48) = true → (fun (v : Value) (w' : World) => v = .bool (stepsOk l) ∧ Ext w w') (.bool false) wv_9) ∧
        ((!t48) = false → ∃ t51 : Int, t51 = IntKind.wrap .i64 ((j : Int) + 1) ∧ (fun (i : Int) (wr : World) => ∃ j : Nat, i = j ∧ j ≤ n ∧ Ext w wr ∧ ∀ i < j, stepOk l i = true) t51 wv_9 ∧ (fun (i : Int) (_ : World) => n - i.toNat) t51 wv_9 < (fun (i : Int) (_ : World) => n - i.toNat) (j : Int) wr) := by
      intro hin hgt
      refine ⟨_, _, _, _, _, fun W hW => (hb4.ext hW).loadAAt 1 [.bool a1, .slice a2p a2n a2c, .int .i64 a3] rfl (by kernel_rfl) rfl, ?_⟩
      refine Ret.at (impl_TaxRateOk_c hdec rfl) ?_
      rintro v w5 ⟨hv, y5⟩
      subst hv
      have x5 := x3.trans y5
      refine ⟨_, rfl, ifN (fun hno => ⟨?_, x5⟩) (fun htax => next _ x5 ?_)⟩
      · rw [steps_no hjl]
        simp only [stepOk, hgd, stepFrom, List.drop_succ_cons, List.drop_zero, hno, Bool.and_false, Bool.false_and]
      · have hg : (decide (0 < j) && decide (a0 ≤ stepFrom (l.getD (j - 1) []))) = false := by
          simp only [Bool.and_eq_false_iff, decide_eq_false_iff_not]
          rcases Nat.eq_zero_or_pos j with h | h
          · exact .inl (by omega)
          · have := hgt h; exact .inr (by omega)
        unfold stepOk
        rw [hgd, show (decide (0 < j) && decide (stepFrom [D0.int a0, .bool a1, .ints a2z, .int a3] ≤ stepFrom (l.getD (j - 1) []))) = false from hg]
        simp only [stepFrom, List.drop_succ_cons, List.drop_zero, htax, Bool.not_false, Bool.and_true]
        exact decide_eq_true hin
    refine ⟨w3, st, _, fun W hW => (hb4.ext hW).loadAt 0 rfl (by kernel_rfl) rfl, ifD (fun hbig => ifT (ifT ⟨?_, x3⟩)) (fun hsmall => ?_)⟩
    · rw [steps_no hjl]
      simp only [stepOk, hgd, stepFrom, show decide (0 ≤ a0 ∧ a0 ≤ 1000000000) = false by simp; omega, Bool.false_and]
    refine ifD (fun hpos => ?_) (fun hzero => ifF (rate ?_ ?_))
    · refine exW ⟨by omega, by omega⟩ ⟨⟨by omega, by omega⟩, stepFrom (l.getD (j - 1) []), fun W hW => ?_, _, fun W hW => (hb4.ext hW).loadAt 0 rfl (by kernel_rfl) rfl, ifD (fun hle => ifT ⟨?_, x3⟩) (fun hgt => rate ?_ ?_)⟩
      · have := first (j - 1) (by omega) W (x3.trans hW)
        rw [show ((j : Int) - 1).toNat = j - 1 by omega]
        exact this
      · rw [steps_no hjl]
        simp only [stepOk, hgd]
        rw [decide_eq_true (show stepFrom [.int a0, .bool a1, .ints a2z, .int a3] ≤ stepFrom (l.getD (j - 1) []) from hle), decide_eq_true (show 0 < j by omega)]
        simp
      · have := hprev (by omega)
        omega
      · intro _; omega
    · have := h00 (by omega)
      omega
    · intro h0; omega
  · rw [steps_yes hlen he (fun i hi => hall i (by omega))]
end Go.Proofs.YtmajiilehdpdmaaGreat

namespace Go.Proofs.YtmajiilehdpdmaaGreat
open Go Go.Proofs.YtmajiilehdpdmaaGreat.Sx
set_option linter.unusedVariables false
set_option linter.unusedSimpArgs false
def modeOk (m : Int) : Bool := decide (0 ≤ m ∧ m ≤ 6)
end Go.Proofs.YtmajiilehdpdmaaGreat

namespace Go.Proofs.YtmajiilehdpdmaaGreat
open Go Go.Proofs.YtmajiilehdpdmaaGreat.Sx
set_option linter.unusedVariables false
set_option linter.unusedSimpArgs false
theorem Owns.notin {w : World} {B : Nat} {r : Nat} {e : TypeId} {cs : List Value} (hb : Blk w r e cs) (he : e ≠ T_int) : ∀ {vs : List Value} {ds : List D0} {f : List Nat}, Owns w B vs ds f → r ∉ f
  | [], [], f, h => by rw [show f = [] from h]; simp
  | [], _ :: _, _, h => h.elim
  | _ :: _, [], _, h => h.elim
  | v :: vs, d :: ds, _, h => by
    obtain ⟨f1, f2, rfl, h1, h2⟩ := h
    have ih := Owns.notin hb he h2
    intro hm
    rcases List.mem_append.1 hm with hm | hm
    · cases d <;> simp only [Own0] at h1
      case ints zs =>
        obtain ⟨p, n, c, _, ho, hf⟩ := h1
        rw [hf] at hm
        have hm := opt_mem hm
        rcases ho.2 with k1 | ⟨g, cap, cur, k1, k2, k3, k4⟩
        · simp only [Value.slice.injEq] at k1
          rw [k1.1.1] at hm
          simp at hm
        · simp only [Value.slice.injEq] at k1
          rw [k1.1] at hm
          simp at hm
          subst hm
          rw [show w.heap[g]? = _ from hb] at k3
          simp only [Option.some.injEq, Obj.cells.injEq] at k3
          exact he k3.2.1
      all_goals (rw [h1.2] at hm; simp at hm)
    · exact ih hm
def restR (N : Int) (D : Nat) (m : Int) : List D0 := redR (N * ((1 : Nat) : Int) + -(rround N D m) * (D : Int)) (D * 1)
def rs (N : Int) (D : Nat) (m : Int) : List D0 := if modeOk m then restR N D m else rat0
theorem one_len1 : (digs 1).length ≤ 1 := by rw [digs_one]; decide
theorem rmk_int_ok {z : Int} (h : (digs z.natAbs).length ≤ 18) : ratOk (rmk z 1) = true := ratOk_rmk (by decide) (Nat.gcd_one_right _) h (Nat.le_trans one_len1 (by decide))
end Go.Proofs.YtmajiilehdpdmaaGreat

namespace Go.Proofs.YtmajiilehdpdmaaGreat
open Go Go.Proofs.YtmajiilehdpdmaaGreat.Sx
set_option linter.unusedVariables false
set_option linter.unusedSimpArgs false
theorem impl_DecRat_n {w : World} {xs : List Value} {m t : Nat} (h : Reps w xs (dnn m (t : Int))) (hm : (digs m).length ≤ 6) (ht : t ≤ 30) :
    Ret P n_impl_DecRat [.agg ⟨xs⟩] w fun v w' => ∃ vs f, v = .agg ⟨vs⟩ ∧ Owns w' w.heap.size vs (redR (m : Int) (10 ^ t)) f ∧ f.Nodup ∧ Ext w w' := by
  have hr := h
  obtain ⟨a0, ap, an, ac, az, a2, rfl, hd, ha⟩ := open_Dec h rfl
  simp only [dnn, List.cons.injEq, D0.bool.injEq, D0.ints.injEq, D0.int.injEq, and_true] at hd
  obtain ⟨rfl, rfl, rfl⟩ := hd
  have hla := ha.1
  have hpow : 0 < 10 ^ t := Nat.pow_pos (by decide)
  have hten := ten_len ht
  refine impl_DecRat_ret ?_
  unfold impl_DecRat
  intro r w1 hn1 r1 w2 hn2
  have e1 := hn1.r_eq; have e2 := hn2.r_eq; have z1 := hn1.size; have z2 := hn2.size
  have X := hn1.ext.trans hn2.ext
  have b0 := hn1.blk.ext hn2.ext; have b1 := hn2.blk
  refine ⟨_, _, _, _, _, b0.loadA0 (by kernel_rfl), ?_⟩
  refine Ret.at (impl_DecOk_c (hr.ext X) rfl) ?_
  rintro v w3 ⟨hv, y3⟩
  subst hv
  rw [dnn_ok hm ⟨by omega, by omega⟩]
  refine ⟨_, rfl, ifN (fun hh => absurd hh (by simp)) (fun _ => ?_)⟩
  have D := Ext.drew w3
  have Y := y3.trans D
  have X4 := X.trans Y
  have lY := Y.le
  have b0 := b0.ext Y; have b1 := b1.ext Y
  refine ⟨_, _, _, _, fun W hW => (b0.ext hW).loadAAt 0 [.bool false, .slice ap an ac] rfl (by kernel_rfl) rfl, _, fun W hW => (b0.ext hW).loadAt 2 rfl (by kernel_rfl) rfl, ?_⟩
  intro ss w4 F1
  have S1 := (FlSt.start (o := .cells ⟨[.bool false, .slice none 0 0, .slice none 0 0]⟩ T_impl_Rat (0, 0)) w3.drew).step F1
  refine Ret.at (impl_natTen_c (k := (t : Int)) (by omega) (by omega)) ?_
  rintro v w5 ⟨p5, n5, c5, hv, o5, y5⟩
  subst hv
  rw [Int.toNat_natCast] at o5
  have l5 := o5.ints.1
  refine ⟨_, _, _, rfl, y5, ?_⟩
  intro ss1 w6 F2
  have S2 := (S1.ext y5).step F2
  have hs : Reps w6 [.bool false, .slice ap an ac] (enc (m : Int)) := by
    rw [natCast_enc]
    exact ⟨rfl, ⟨_, _, _, rfl, ha.ext (X4.trans S2.1)⟩, trivial⟩
  refine Ret.at (impl_reduce_c hs (o5.ints.ext F2.ext) hpow (by rw [Int.natAbs_natCast]; omega) (by omega)) ?_
  rintro v w7 ⟨vs7, f7, hv, ho7, nd7, y7⟩
  subst hv
  have hr7 := ho7.reps
  obtain ⟨g0, gp, gn, gc, gz, gp2, gn2, gc2, gz2, rfl, _, _, _⟩ := open_Rat hr7 (redR_code _ _)
  refine ⟨_, _, _, _, _, _, _, _, rfl, ?_⟩
  intro ss2 w8 r8 F3 G
  have S3 := (S2.ext y7).step F3
  obtain ⟨hr8, hbk⟩ := S3.get G
  have B8 : Blk w8 r8 T_impl_Rat [.bool false, .slice none 0 0, .slice none 0 0] := hbk
  obtain ⟨w9, st9, hb9, ch9, sz9⟩ := B8.storeA0 (P := P) (t := T_impl_Rat) (xs := [.bool g0, .slice gp gn gc, .slice gp2 gn2 gc2]) (by kernel_rfl) rfl (by simp [Value.oneCell'])
  have hni := Owns.notin B8 (by decide) (ho7.ext F3.ext)
  have ho9 := (ho7.ext F3.ext).chg ch9 (fun k hk hm' => hni (by simp at hm'; rwa [← hm']))
  have Z9 : Ext w3.drew w9 := S3.1.chg ch9 (by simp; exact hr8)
  have lZ := S2.1.le
  obtain ⟨W', st, ld, ow, xx, _, _⟩ := agg_end (t := T_impl_Rat) (b1.ext Z9) (X4.trans Z9) (by omega) ho9 (by kernel_rfl) rfl (by omega) (by omega)
  exact ⟨w9, st9, _, _, _, _, _, _, _, hb9.loadA0 (by kernel_rfl), W', st, _, _, _, _, _, _, _, ld, _, f7, rfl, ow, nd7, xx⟩
theorem spec_DecRat_n {w : World} {xs : List Value} {m t : Nat} (h : Reps w xs (dnn m (t : Int))) (hm : (digs m).length ≤ 6) (ht : t ≤ 30) :
    Ret P n_spec_DecRat [.agg ⟨xs⟩] w fun v w' => ∃ vs f, v = .agg ⟨vs⟩ ∧ Owns w' w.heap.size vs (redR (m : Int) (10 ^ t)) f ∧ f.Nodup ∧ Ext w w' := by
  have hr := h
  obtain ⟨a0, ap, an, ac, az, a2, rfl, hd, ha⟩ := open_Dec h rfl
  simp only [dnn, List.cons.injEq, D0.bool.injEq, D0.ints.injEq, D0.int.injEq, and_true] at hd
  obtain ⟨rfl, rfl, rfl⟩ := hd
  have hla := ha.1
  have hpow : 0 < 10 ^ t := Nat.pow_pos (by decide)
  have hten := ten_len ht
  refine spec_DecRat_ret ?_
  unfold spec_DecRat
  intro r w1 hn1 r1 w2 hn2
  have e1 := hn1.r_eq; have e2 := hn2.r_eq; have z1 := hn1.size; have z2 := hn2.size
  have X := hn1.ext.trans hn2.ext
  have b0 := hn1.blk.ext hn2.ext; have b1 := hn2.blk
  refine ⟨_, _, _, _, _, b0.loadA0 (by kernel_rfl), ?_⟩
  refine Ret.at (spec_DecOk_c (hr.ext X) rfl) ?_
  rintro v w3 ⟨hv, y3⟩
  subst hv
  rw [dnn_ok hm ⟨by omega, by omega⟩]
  refine ⟨_, rfl, ifN (fun hh => absurd hh (by simp)) (fun _ => ?_)⟩
  have D := Ext.drew w3
  have Y := y3.trans D
  have X4 := X.trans Y
  have lY := Y.le
  have b0 := b0.ext Y; have b1 := b1.ext Y
  refine ⟨_, _, _, _, fun W hW => (b0.ext hW).loadAAt 0 [.bool false, .slice ap an ac] rfl (by kernel_rfl) rfl, _, fun W hW => (b0.ext hW).loadAt 2 rfl (by kernel_rfl) rfl, ?_⟩
  intro ss w4 F1
  have S1 := (FlSt.start (o := .cells ⟨[.bool false, .slice none 0 0, .slice none 0 0]⟩ T_impl_Rat (0, 0)) w3.drew).step F1
  refine Ret.at (spec_l07Ten_c (k := (t : Int)) (by omega) (by omega)) ?_
  rintro v w5 ⟨vs5, f5, hv, o5, _, y5⟩
  subst hv
  rw [Int.toNat_natCast] at o5
  have hr5 := o5.reps
  obtain ⟨s0, sp, sn, sc, sz, rfl, _, _⟩ := open_Signed hr5 (enc_code _)
  refine ⟨_, _, _, _, rfl, y5, ?_⟩
  intro ss1 w6 F2
  have S2 := (S1.ext y5).step F2
  have hs : Reps w6 [.bool false, .slice ap an ac] (enc (m : Int)) := by
    rw [natCast_enc]
    exact ⟨rfl, ⟨_, _, _, rfl, ha.ext (X4.trans S2.1)⟩, trivial⟩
  refine Ret.at (spec_RatMake_n hs (hr5.ext F2.ext) (by rw [Int.natAbs_natCast]; omega) (by omega) hpow) ?_
  rintro v w7 ⟨vs7, f7, hv, ho7, nd7, y7⟩
  subst hv
  have hr7 := ho7.reps
  obtain ⟨g0, gp, gn, gc, gz, gp2, gn2, gc2, gz2, rfl, _, _, _⟩ := open_Rat hr7 (redR_code _ _)
  refine ⟨_, _, _, _, _, _, _, _, rfl, ?_⟩
  intro ss2 w8 r8 F3 G
  have S3 := (S2.ext y7).step F3
  obtain ⟨hr8, hbk⟩ := S3.get G
  have B8 : Blk w8 r8 T_impl_Rat [.bool false, .slice none 0 0, .slice none 0 0] := hbk
  obtain ⟨w9, st9, hb9, ch9, sz9⟩ := B8.storeA0 (P := P) (t := T_impl_Rat) (xs := [.bool g0, .slice gp gn gc, .slice gp2 gn2 gc2]) (by kernel_rfl) rfl (by simp [Value.oneCell'])
  have hni := Owns.notin B8 (by decide) (ho7.ext F3.ext)
  have ho9 := (ho7.ext F3.ext).chg ch9 (fun k hk hm' => hni (by simp at hm'; rwa [← hm']))
  have Z9 : Ext w3.drew w9 := S3.1.chg ch9 (by simp; exact hr8)
  have lZ := S2.1.le
  obtain ⟨W', st, ld, ow, xx, _, _⟩ := agg_end (t := T_impl_Rat) (b1.ext Z9) (X4.trans Z9) (by omega) ho9 (by kernel_rfl) rfl (by omega) (by omega)
  exact ⟨w9, st9, _, _, _, _, _, _, _, hb9.loadA0 (by kernel_rfl), W', st, _, _, _, _, _, _, _, ld, _, f7, rfl, ow, nd7, xx⟩
end Go.Proofs.YtmajiilehdpdmaaGreat

namespace Go.Proofs.YtmajiilehdpdmaaGreat
open Go Go.Proofs.YtmajiilehdpdmaaGreat.Sx
set_option linter.unusedVariables false
set_option linter.unusedSimpArgs false
theorem decOk_parts {b : Bool} {z : List Int} {s : Int} (h : decOk [.bool b, .ints z, .int s] = true) : intOk [.bool b, .ints z] = true ∧ natOk z = true ∧ Limbs z ∧ z.length ≤ 6 ∧ 0 ≤ s ∧ s ≤ 30 := by
  simp only [decOk, Bool.and_eq_true, decide_eq_true_eq] at h
  obtain ⟨⟨h1, h2⟩, h3⟩ := h
  have h4 : natOk z = true := by
    have := h1
    simp only [intOk, Bool.and_eq_true] at this
    exact this.1
  exact ⟨h1, h4, (natOk_spec.1 h4).1.1, h2, h3⟩
theorem taxOk_nn {b : Bool} {z : List Int} {s : Int} (h : taxOk [.bool b, .ints z, .int s] = true) : ∃ m t : Nat, b = false ∧ z = digs m ∧ s = (t : Int) ∧ t ≤ 30 ∧ (val z).toNat = m ∧ s.toNat = t ∧ m < 1000000000 := by
  simp only [taxOk, Bool.and_eq_true, decide_eq_true_eq, Bool.not_eq_true'] at h
  obtain ⟨⟨⟨h1, h2⟩, h3⟩, _⟩ := h
  obtain ⟨_, hno, hz, _, h4, h5⟩ := decOk_parts h1
  have hc := (natOk_spec.1 hno).1
  refine ⟨(val z).toNat, s.toNat, h3, (digs_val hc).symm, by omega, by omega, rfl, rfl, ?_⟩
  have hlt := val_lt hz
  have hp : (1000000000 : Int) ^ z.length ≤ 1000000000 := by
    match z, h2 with
    | [], _ => decide
    | [x], _ =>
      show (1000000000 : Int) ^ 1 ≤ 1000000000
      decide
    | _ :: _ :: _, h2 => simp at h2
  have := val_nonneg hz
  omega
theorem one_len {m : Nat} (h : m < 1000000000) : (digs m).length ≤ 1 := digs_len 1 (by simpa using h)
end Go.Proofs.YtmajiilehdpdmaaGreat

namespace Go.Proofs.YtmajiilehdpdmaaGreat
open Go Go.Proofs.YtmajiilehdpdmaaGreat.Sx
set_option linter.unusedVariables false
set_option linter.unusedSimpArgs false
theorem spec_IntSub_n {w : World} {xs ys : List Value} {x y : Int} (h : Reps w xs (enc x)) (k : Reps w ys (enc y)) (hx : x.natAbs ≤ 1000000000000000000000000000000000000) (hy : y.natAbs ≤ 1000000000000000000000000000000000000) :
    Ret P n_spec_IntSub [.agg ⟨xs⟩, .agg ⟨ys⟩] w fun v w' => ∃ vs f, v = .agg ⟨vs⟩ ∧ Owns w' w.heap.size vs (enc (x - y)) f ∧ f.Nodup ∧ Ext w w' := by
  have d1 : (digs x.natAbs).length ≤ 6 := digs_len_le (by omega)
  have d2 : (digs (-y).natAbs).length ≤ 6 := digs_len_le (by omega)
  have d3 : (digs (x + -y).natAbs).length ≤ 6 := digs_len_le (by omega)
  have hr := h; have kr := k
  obtain ⟨a0, ap, an, ac, az, rfl, hd, ha⟩ := open_Signed h (enc_code _)
  obtain ⟨b0, bp, bn, bc, bz, rfl, he, hb⟩ := open_Signed k (enc_code _)
  refine spec_IntSub_ret ?_
  unfold spec_IntSub
  intro r w1 hn1 r1 w2 hn2 r2 w3 hn3
  have e1 := hn1.r_eq; have e2 := hn2.r_eq; have e3 := hn3.r_eq; have z1 := hn1.size; have z2 := hn2.size; have z3 := hn3.size
  have X := (hn1.ext.trans hn2.ext).trans hn3.ext
  have q0 := (hn1.blk.ext hn2.ext).ext hn3.ext; have q1 := hn2.blk.ext hn3.ext; have q2 := hn3.blk
  refine ⟨_, _, _, _, q0.loadA0 (by kernel_rfl), ?_⟩
  refine Ret.at (spec_IntOk_c (hr.ext X) (enc_code _)) ?_
  rintro v w4 ⟨hv, y4⟩
  subst hv
  rw [enc_small (show x.natAbs < _ by omega)]
  refine ⟨_, rfl, ifN (fun hh => absurd hh (by simp)) (fun _ => ⟨_, _, _, _, (q1.ext y4).loadA0 (by kernel_rfl), ?_⟩)⟩
  refine Ret.at (spec_IntOk_c (kr.ext (X.trans y4)) (enc_code _)) ?_
  rintro v w5 ⟨hv, y5⟩
  subst hv
  rw [enc_small (show y.natAbs < _ by omega)]
  refine ⟨_, rfl, ifN (fun hh => absurd hh (by simp)) (fun _ => ?_)⟩
  have Y := (y4.trans y5).trans (Ext.drew w5)
  have X5 := X.trans Y
  have lY := Y.le
  refine ⟨_, _, _, _, fun W hW => ((q0.ext Y).ext hW).loadA0 (by kernel_rfl), _, _, _, _, fun W hW => ((q1.ext Y).ext hW).loadA0 (by kernel_rfl), ?_⟩
  refine Ret.at (spec_IntNeg_c (kr.ext X5) (enc_small (by omega))) ?_
  rintro v w6 ⟨vs6, f6, hv, ho6, _, y6⟩
  subst hv
  obtain ⟨g0, gp, gn, gc, gz, rfl, _, _⟩ := open_Signed ho6.reps (enc_code _)
  have l6 := y6.le
  refine ⟨_, _, _, _, rfl, y6, ?_⟩
  refine Ret.at (spec_l04Add_c (hr.ext (X5.trans y6)) ho6.reps (by omega) (by omega)) ?_
  rintro v w7 ⟨vs7, f7, hv, ho7, nd7, y7⟩
  subst hv
  rw [icap_fit (by omega), ← Int.sub_eq_add_neg] at ho7
  obtain ⟨m0, mp, mn, mc, mz, rfl, _, _⟩ := open_Signed ho7.reps (enc_code _)
  obtain ⟨W', st', ld', ow', xx', _, _⟩ := agg_end (t := T_impl_Signed) (((q2.ext Y).ext y6).ext y7) ((X5.trans y6).trans y7) (by omega) ho7 (by kernel_rfl) rfl (by omega) (by omega)
  exact ⟨_, _, _, _, rfl, W', st', _, _, _, _, ld', _, f7, rfl, ow', nd7, xx'⟩
end Go.Proofs.YtmajiilehdpdmaaGreat

namespace Go.Proofs.YtmajiilehdpdmaaGreat.Sx
open Go Go.RowKit
set_option linter.unusedVariables false
set_option linter.unusedSimpArgs false
theorem Fl.trans {os : List Obj} {ss : List (Option Nat)} {w : World} {s1 : List (Option Nat)} {w1 : World} {s2 : List (Option Nat)} {w2 : World} (h : Fl os ss w s1 w1) (g : Fl os s1 w1 s2 w2) : Fl os ss w s2 w2 := by
  induction h with
  | refl => exact g
  | step h1 h2 _ ih => exact .step h1 h2 (ih g)
theorem Fl.old {os : List Obj} {ss : List (Option Nat)} {w : World} {s1 : List (Option Nat)} {w1 : World} (h : Fl os ss w s1 w1) {k r : Nat} (hk : s1[k]? = some (some r)) : ss[k]? = some (some r) ∨ w.heap.size ≤ r := by
  induction h with
  | refl => exact .inl hk
  | step h1 h2 h3 ih =>
    rename_i ss w k' o s' w'
    have hs : (w.alloc o).heap.size = w.heap.size + 1 := by simp
    rcases ih hk with h | h
    · by_cases e : k' = k
      · subst e
        have hl : k' < ss.length := by
          rcases Nat.lt_or_ge k' ss.length with h | h
          · exact h
          · rw [List.getElem?_eq_none h] at h1; cases h1
        rw [List.getElem?_set_self hl] at h
        simp at h
        exact .inr (by omega)
      · rw [List.getElem?_set_ne e] at h
        exact .inl h
    · exact .inr (by omega)
def FlS (os : List Obj) (w0 : World) (ss : List (Option Nat)) (w : World) : Prop :=
 Ext w0 w ∧ (∀ (k r : Nat), ss[k]? = some (some r) → w0.heap.size ≤ r ∧ r < w.heap.size ∧ w.heap[r]? = os[k]?) ∧ (∀ (k l r : Nat), ss[k]? = some (some r) → ss[l]? = some (some r) → k = l)
theorem FlS.ext {os : List Obj} {w0 w w' : World} {ss : List (Option Nat)} (h : FlS os w0 ss w) (y : Ext w w') : FlS os w0 ss w' :=
  ⟨h.1.trans y, fun k r hk => by
    obtain ⟨a, b, c⟩ := h.2.1 k r hk
    exact ⟨a, Nat.lt_of_lt_of_le b y.le, (y.block r b).trans c⟩, h.2.2⟩
theorem FlS.step {os : List Obj} {w0 w w' : World} {ss ss' : List (Option Nat)} (h : FlS os w0 ss w) (f : Fl os ss w ss' w') : FlS os w0 ss' w' := by
  induction f with
  | refl => exact h
  | step h1 h2 h3 ih =>
    rename_i ss w k' o s' w'
    refine ih ?_
    have y : Ext w (w.alloc o) := (Below.refl _ _).alloc (Nat.le_refl _) _
    have hs : (w.alloc o).heap.size = w.heap.size + 1 := by simp
    have hg : (w.alloc o).heap[w.heap.size]? = some o := heap_alloc_new w _
    have hl : k' < ss.length := by
      rcases Nat.lt_or_ge k' ss.length with h | h
      · exact h
      · rw [List.getElem?_eq_none h] at h1; cases h1
    have hx := h.ext y
    have hle := h.1.le
    refine ⟨hx.1, fun k r hk => ?_, fun k l r hk hl' => ?_⟩
    · by_cases e : k' = k
      · subst e
        rw [List.getElem?_set_self hl] at hk
        simp at hk
        subst hk
        exact ⟨hle, by omega, hg.trans h2.symm⟩
      · rw [List.getElem?_set_ne e] at hk
        exact hx.2.1 k r hk
    · by_cases e : k' = k
      · by_cases e2 : k' = l
        · omega
        · subst e
          rw [List.getElem?_set_self hl] at hk
          simp at hk
          subst hk
          rw [List.getElem?_set_ne e2] at hl'
          have := (h.2.1 l _ hl').2.1
          omega
      · rw [List.getElem?_set_ne e] at hk
        by_cases e2 : k' = l
        · subst e2
          rw [List.getElem?_set_self hl] at hl'
          simp at hl'
          subst hl'
          have := (h.2.1 k _ hk).2.1
          omega
        · rw [List.getElem?_set_ne e2] at hl'
          exact h.2.2 k l r hk hl'
theorem FlS.first {os : List Obj} {w0 w : World} {ss0 ss : List (Option Nat)} (f : Fl os ss0 w0 ss w) (h : ss0.all Option.isNone = true) : FlS os w0 ss w := by
  refine FlS.step ⟨Ext.refl _, fun k r hk => ?_, fun k l r hk _ => ?_⟩ f <;>
  · have hm := List.mem_of_getElem? hk
    have := List.all_eq_true.1 h _ hm
    simp at this
theorem FlS.blk {os : List Obj} {w0 w : World} {ss : List (Option Nat)} {k r : Nat} {cs : List Value} {e : TypeId} (h : FlS os w0 ss w) (hk : ss[k]? = some (some r)) (ho : os[k]? = some (.cells ⟨cs⟩ e (0, 0))) : w0.heap.size ≤ r ∧ r < w.heap.size ∧ Blk w r e cs := by
  obtain ⟨a, b, c⟩ := h.2.1 k r hk
  exact ⟨a, b, c.trans ho⟩
theorem FlS.ne {os : List Obj} {w0 w : World} {ss : List (Option Nat)} {k l r s : Nat} (h : FlS os w0 ss w) (hk : ss[k]? = some (some r)) (hl : ss[l]? = some (some s)) (e : k ≠ l) : r ≠ s := fun hh => e (h.2.2 k l r hk (hh ▸ hl))
theorem FlS.apart {os : List Obj} {w0 wc we w' : World} {ss ss' : List (Option Nat)} {k r : Nat} (h : FlS os w0 ss wc) (f : Fl os ss we ss' w') (hk : ss'[k]? = some (some r)) : r < wc.heap.size ∨ we.heap.size ≤ r := by
  rcases f.old hk with a | a
  · exact .inl (h.2.1 k r a).2.1
  · exact .inr a
end Go.Proofs.YtmajiilehdpdmaaGreat.Sx

namespace Go.Proofs.YtmajiilehdpdmaaGreat
open Go Go.Proofs.YtmajiilehdpdmaaGreat.Sx
set_option linter.unusedVariables false
set_option linter.unusedSimpArgs false
theorem laws_markStepS_c {w : World} {B : Nat} {e : TypeId} {p : Option Addr} {n c : Nat} {l : List (List D0)} {f : List Nat} {k : Int} (h : OwnRows w B e 4 p n c l f) (hc : ∀ x ∈ l, x.map D0.code = [.int, .bool, .ints, .int]) (h0 : 0 ≤ k) (h1 : k + cntL l ≤ 1000000000000000000) :
    Ret P n_laws_markStepS [.slice p n c, .int .i64 k] w fun v w' => v = .int .i64 (k + cntL l) ∧ OwnRows w' B e 4 p n c (markL l k) f ∧ Chg f w w' := by
  have hz := h.1; have hcap := h.rows.2.1; have hcm := h.rows.2.2.1
  refine laws_markStepS_ret ?_
  unfold laws_markStepS
  refine ⟨fun k1 i wr => ∃ j : Nat, i = j ∧ j ≤ n ∧ k1 = k + cntL (l.take j) ∧ OwnRows wr B e 4 p n c (markL (l.take j) k ++ l.drop j) f ∧ Chg f w wr, fun _ i _ => n - i.toNat, ⟨0, rfl, by omega, by simp [cntL], by simpa [markL] using h, Chg.refl _ _⟩, ?_⟩
  intro junk wr k1 i ⟨j, hij, hj, hk1, ho, hch⟩
  subst hij
  refine ifD (fun hlt => ?_) (fun hge => ?_)
  · have hjl : j < l.length := by omega
    obtain ⟨x, hxe⟩ : ∃ x, l[j]? = some x := ⟨_, List.getElem?_eq_getElem hjl⟩
    have hcode := hc x (List.mem_of_getElem? hxe)
    obtain ⟨hct, hcle⟩ := cntL_row hxe
    have hcn := cntL_nonneg (l.take j)
    obtain ⟨b, xs, cs, zs, fi, hp, hB, hA, hk, blk, ow, ndf, hbf, hbm, hfm, back⟩ := ho.focus (markL_at hxe)
    subst hp
    obtain ⟨a0, us, es, rfl, rfl, ow2, hcode2⟩ := ow.consInt hcode
    clear ow hcode; have ow := ow2; have hcode := hcode2; clear ow2 hcode2
    obtain ⟨a1, us, es, rfl, rfl, ow2, hcode2⟩ := ow.consBool hcode
    clear ow hcode; have ow := ow2; have hcode := hcode2; clear ow2 hcode2
    obtain ⟨a2p, a2n, a2c, a2z, us, es, f2, rfl, rfl, rfl, o2, ow2, hcode2⟩ := ow.consInts hcode
    clear ow hcode; have ow := ow2; have hcode := hcode2; clear ow2 hcode2
    obtain ⟨a3, us, es, rfl, rfl, ow2, hcode2⟩ := ow.consInt hcode
    clear ow hcode; have ow := ow2; have hcode := hcode2; clear ow2 hcode2
    obtain ⟨rfl, rfl, rfl⟩ := ow.done hcode
    simp only [cnts, D0.cnt] at hct hcle
    have z2 : a2z.length = a2n := by have := o2.len; simpa using this
    have m2 : ∀ q, a2p.map (·.block) = some q → q ∈ ((a2p.map (·.block)).toList ++ ([] : List Nat)) := fun q hq => List.mem_append_left _ (mem_opt hq)
    have u2 : ∀ {W : World} {W2 : World} {zs : List Value}, Own W B T_int 1 a2p a2n a2c zs → Chg [b] W W2 → Own W2 B T_int 1 a2p a2n a2c zs := fun o ch => o.chg ch (fun q hq hm => hbf (List.mem_singleton.1 hm ▸ m2 q hq))
    have chT : Chg (b :: ((a2p.map (·.block)).toList ++ ([] : List Nat))) wr wr := Chg.refl _ _
    have sub1 : ∀ q ∈ [b], q ∈ b :: ((a2p.map (·.block)).toList ++ ([] : List Nat)) := fun q hq => by rw [List.mem_singleton.1 hq]; exact List.mem_cons_self
    obtain ⟨w1, st, blk2, ch, sz⟩ := blk.storeMid (P := P) (t := T_int) (v := .int .i64 (k1)) hA 0 (by simp) (by kernel_rfl) rfl rfl
    have blk : Blk w1 b e (xs ++ [.int .i64 (k1), .bool a1, .slice a2p a2n a2c, .int .i64 a3] ++ zs) := blk2; clear blk2
    have chT := chT.trans (ch.mono sub1)
    have o2 := u2 o2 ch
    refine ⟨⟨by omega, by omega⟩, w1, (by simp only [addr_add, Int.toNat_natCast, Nat.zero_add, Nat.add_zero]; exact st), exW ⟨by omega, by omega⟩ ?_⟩
    refine ⟨by decide, _, rfl, ⟨by omega, by omega⟩, ?_⟩
    rw [Int.tmod_eq_emod_of_nonneg (show (0 : Int) ≤ k1 + 1 by omega)]
    obtain ⟨w2, st, blk2, ch, sz⟩ := blk.storeMid (P := P) (t := T_bool) (v := .bool (decide ((k1 + 1) % 3 = 0))) hA 1 (by simp) (by kernel_rfl) rfl rfl
    have blk : Blk w2 b e (xs ++ [.int .i64 (k1), .bool (decide ((k1 + 1) % 3 = 0)), .slice a2p a2n a2c, .int .i64 a3] ++ zs) := blk2; clear blk2
    have chT := chT.trans (ch.mono sub1)
    have o2 := u2 o2 ch
    refine ⟨w2, (by simp only [addr_add, Int.toNat_natCast, Nat.zero_add, Nat.add_zero]; exact st), exW ⟨by omega, by omega⟩ ?_⟩
    refine ⟨⟨by omega, by omega⟩, _, _, _, (by simp only [addr_add, Int.toNat_natCast, Nat.zero_add, Nat.add_zero]; exact (blk.segMid hA).loadAt 2 rfl (by kernel_rfl) rfl), ?_⟩
    refine Ret.at (laws_markIntS_c o2 (by omega) (by omega)) ?_
    rintro v w3 ⟨hv, on, ch⟩
    subst hv
    have blk := blk.chg ch (fun hm => hbf (m2 _ (opt_mem hm)))
    have chT := chT.trans (ch.mono (fun q hq => List.mem_cons_of_mem _ (m2 q (opt_mem hq))))
    have o2 := on; clear on
    refine ⟨_, rfl, ?_⟩
    obtain ⟨w4, st, blk2, ch, sz⟩ := blk.storeMid (P := P) (t := T_int) (v := .int .i64 (k1 + 1 + 1 + (a2n : Nat))) hA 3 (by simp) (by kernel_rfl) rfl rfl
    have blk : Blk w4 b e (xs ++ [.int .i64 (k1), .bool (decide ((k1 + 1) % 3 = 0)), .slice a2p a2n a2c, .int .i64 (k1 + 1 + 1 + (a2n : Nat))] ++ zs) := blk2; clear blk2
    have chT := chT.trans (ch.mono sub1)
    have o2 := u2 o2 ch
    refine ⟨⟨by omega, by omega⟩, w4, (by simp only [addr_add, Int.toNat_natCast, Nat.zero_add, Nat.add_zero]; exact st), exW ⟨by omega, by omega⟩ ?_⟩
    refine exW ⟨by omega, by omega⟩ ⟨⟨j + 1, by omega, by omega, by omega, ?_, hch.trans (chT.mono (fun q hq => ?_))⟩, ?_⟩
    · rw [← markL_set hxe, ← hk1]
      have e : marks [.int a0, .bool a1, .ints a2z, .int a3] k1 = [.int (k1), .bool (decide ((k1 + 1) % 3 = 0)), .ints (mkI a2n (k1 + 1 + 1)), .int (k1 + 1 + 1 + (a2n : Nat))] := by simp only [marks, D0.mark, D0.cnt, z2] <;> rfl
      rw [e]
      exact back _ [.int .i64 (k1), .bool (decide ((k1 + 1) % 3 = 0)), .slice a2p a2n a2c, .int .i64 (k1 + 1 + 1 + (a2n : Nat))] _ chT rfl blk (Owns.append (Owns.int _ _ _) (Owns.append (Owns.bool _ _ _) (Owns.append (Owns.ints o2) (Owns.append (Owns.int _ _ _) (Owns.nil _ _)))))
    · rcases List.mem_cons.1 hq with h | h
      · rw [h]; exact hbm
      · exact hfm q h
    · show n - ((j : Int) + 1).toNat < n - (j : Int).toNat
      omega
  · have hjn : j = n := by omega
    subst hjn
    rw [List.take_of_length_le (by omega), List.drop_of_length_le (by omega), List.append_nil] at ho
    rw [List.take_of_length_le (by omega)] at hk1
    exact ⟨by rw [hk1], ho, hch⟩
end Go.Proofs.YtmajiilehdpdmaaGreat

namespace Go.Proofs.YtmajiilehdpdmaaGreat.Sx
open Go Go.RowKit Go.ChangeShapes Go.WideShapes
set_option linter.unusedVariables false
set_option linter.unusedSimpArgs false
def rowedV (P : Program) (ns : List String) : Bool := ns.all fun n => ((P.globalNamed n).bind (P.globals[·]?)).all fun gl => P.readableRec gl.type && decide (gl.type < P.types.size)
section
variable {H : Type} {enc : TypeId × Value → H} {P : Program}
theorem trodAll_ext (hl : laidOutB P = true) {W W' : World} (hb : Ext W W') (sp' : Nat → Bool) : ∀ {ts : List TypeId} {vs : List Value} {ds : List (DataW H)} {ps : List MemPlace},
    (∀ t ∈ ts, P.readableRec t = true ∧ t < P.types.size) → (∀ p ∈ ps, p.block < W.heap.size) → (∀ p ∈ ps, sp' p.block = true) →
    DataW.TrodAll enc P W 0 (fun _ => true) true ts vs ds ps → DataW.TrodAll enc P W' 0 sp' true ts vs ds ps
  | [], _, _, _, _, _, _, h => by
    obtain ⟨rfl, rfl, rfl⟩ := trodAll_nil h
    exact rfl
  | t :: ts, _, _, _, hr, hlt, hsp, h => by
    obtain ⟨v, vs1, d, ds1, a, b, rfl, rfl, rfl, h1, h2⟩ := trodAll_cons h
    have hrt := hr t (by simp)
    exact ⟨a, b, WideElems.Trod_stays hl hrt.1 hrt.2 h1 (fun x hx => Below.same hb (hlt x (by simp [hx]))) (fun x hx => hsp x (by simp [hx])),
      trodAll_ext hl hb sp' (fun u hu => hr u (by simp [hu])) (fun x hx => hlt x (by simp [hx])) (fun x hx => hsp x (by simp [hx])) h2, rfl⟩
theorem trodVars_sp (hl : laidOutB P = true) {W W' : World} (hb : Ext W W') (sp' : Nat → Bool) :
    ∀ {ns : List String} {gs : List (DataW H)} {ps : List MemPlace}, rowedV P ns = true → (∀ p ∈ ps, sp' p.block = true) → DataW.TrodVars enc P W (fun _ => true) ns gs ps → DataW.TrodVars enc P W' sp' ns gs ps
  | [], [], _, _, _, h => h
  | [], _ :: _, _, _, _, h => h.elim
  | _ :: _, [], _, _, _, h => h.elim
  | n :: ns, d :: ds, ps, hv, hsp, h => by
    have hlt := h.lt
    obtain ⟨g, t, cs, fuel, p, q, h1, h2, h3, h4, hs, e⟩ := h
    simp only [rowedV, List.all_cons, Bool.and_eq_true] at hv
    have ht : P.readableRec t = true ∧ t < P.types.size := by
      have := hv.1
      rw [h1] at this
      cases hg : P.globals[g]? with
      | none => rw [hg] at h2; cases h2
      | some gl =>
        rw [hg] at h2
        obtain rfl : gl.type = t := Option.some.inj h2
        simpa [hg] using this
    have hp : ∀ x ∈ p, x.block < W.heap.size := fun x hx => hlt x (by rw [e]; simp [hx])
    have h3' : W'.var? P n = some cs := by
      unfold World.var? at h3 ⊢
      rw [h1] at h3 ⊢
      simp only [Option.bind_some] at h3 ⊢
      have hg : g < W.heap.size := by
        cases hh : W.heap[g]? with
        | none => rw [hh] at h3; cases h3
        | some o => exact (Array.getElem?_eq_some_iff.1 hh).1
      rw [hb.block g hg]; exact h3
    exact ⟨g, t, cs, fuel, p, q, h1, h2, h3', DataW.trod_stays (kids_book hl ht.1) (book_sized ht.1) (fun h => by cases h) ⟨ht.2, book_self t⟩ h4 (fun x hx => Below.same hb (hp x hx)) (fun x hx => hsp x (by rw [e]; simp [hx])),
      trodVars_sp hl hb sp' (by simpa [rowedV] using hv.2) (fun x hx => hsp x (by rw [e]; simp [hx])) hs, e⟩
theorem post_of_ext {f : Func} {s : ChangeSpec} {apart fresh handsOn again : Bool} {W W' : World} {args : Array Value} {ds gs : List (DataW H)} {before : List MemPlace} {tb : TypeId}
    (hl : laidOutB P = true) (hpar : ∀ t ∈ f.params.toList, P.readableRec t = true ∧ t < P.types.size) (hvr : rowedV P s.vars = true)
    (hrt : f.resultTypes = #[tb]) (htb : P.underlying tb = some .bool)
    (hW : DataW.Whole enc P f.params.toList s.vars apart W args.toList ds gs before) (hx : Ext W W')
    (hfn : s.fn H (ds ++ gs) = { results := [.lit (.bool true)], args := ds, vars := gs }) :
    s.post enc P f apart fresh handsOn again W args (.bool true) W' := by
  have hW0 := hW
  have hlt : ∀ p ∈ before, p.block < W.heap.size := hW.lt
  obtain ⟨pa, pv, hA, hV, rfl, hz, hn⟩ := hW
  have hlta : ∀ p ∈ pa, p.block < W.heap.size := fun p hp => hlt p (by simp [hp])
  have hltv : ∀ p ∈ pv, p.block < W.heap.size := fun p hp => hlt p (by simp [hp])
  have hr : (Value.bool true).resultList f.resultTypes.size = [Value.bool true] := by rw [hrt]; rfl
  refine ⟨ds, gs, pa ++ pv, [], pa, pv, hW0, ?_, ?_, ?_, Below.frame hx _, fun _ => ?_⟩
  · rw [hfn, hr, hrt]
    exact trodAll_mk1 (shut_bool htb _)
  · rw [hfn]
    exact trodAll_ext hl hx _ hpar hlta (fun p hp => by simpa using hlta p hp) hA
  · rw [hfn]
    exact trodVars_sp hl hx _ hvr (fun p hp => by simpa using hltv p hp) hV
  · refine ⟨?_, (.lit (.bool true)) :: ds, gs, pa ++ pv, ⟨[] ++ pa, pv, ?_, ?_, by simp, ?_, ?_⟩, fun p hp _ => hp⟩
    · rw [hr, hrt]
      exact ok_one (f := { f with resultTypes := #[tb] }) rfl rfl (okWide_bool_mk htb _)
    · rw [hr, hrt]
      exact trodAll_append (trodAll_ext hl hx _ hpar hlta (fun _ _ => rfl) hA) (trodAll_mk1 (shut_bool htb _))
    · exact trodVars_sp hl hx _ hvr (fun _ _ => rfl) hV
    · intro b off hp
      have := hlt _ hp
      rw [Below.frozen hx (p := ⟨b, off, none⟩) this]
      exact hz b off hp
    · exact hn
end
end Go.Proofs.YtmajiilehdpdmaaGreat.Sx

namespace Go.Proofs.YtmajiilehdpdmaaGreat.Sx
open Go Go.RowKit Go.ChangeShapes Go.WideShapes
set_option linter.unusedVariables false
set_option linter.unusedSimpArgs false
def flatF (P : Program) (g : TypeId → Option (List C0)) : Nat → List Field → Option (List C0)
  | _, [] => some []
  | o, f :: r => match Nat.beq f.offset o, g f.type with
    | true, some a => match Nat.beq (P.cellsOf f.type) a.length, flatF P g (o + a.length) r with
      | true, some b => some (a ++ b)
      | _, _ => none
    | _, _ => none
def flatC (P : Program) : Nat → TypeId → Option (List C0)
  | 0, _ => none
  | n + 1, t => match P.underlying t with
    | some .bool => some [.bool]
    | some (.int .i64) => some [.int]
    | some .string => some [.str]
    | some (.slice e) => match P.underlying e, P.cellsOf e with
      | some (.int .i64), 1 => some [.ints]
      | _, _ => none
    | some (.struct fs) => match flatF P (flatC P n) 0 fs.toList with
      | some a => if Nat.beq (P.cellsOf t) a.length then some a else none
      | none => none
    | _ => none
section
variable {H : Type} {enc : TypeId × Value → H} {P : Program} {w : World}
theorem seg_of_cells {b off n : Nat} {sp : Option Nat} {cs : List Value} (h : w.cells? 0 ⟨b, off, none⟩ n = some cs) : cs.length = n ∧ Seg w b off cs := by
  obtain ⟨_, hl, hc⟩ := World.cells?_some h
  refine ⟨hl, fun j v hj => ?_⟩
  have hjl : j < n := by rw [← hl]; exact (List.getElem?_eq_some_iff.1 hj).1
  rw [← addr_add, hc j hjl, hj]
theorem spot_none {a : Addr} {v : Value} (h : w.cell? a = some v) : a = ⟨a.block, a.off, none⟩ := by
  obtain ⟨b, o, spot⟩ := a
  have : spot = none := by simpa using World.cell?_spot h
  subst this; rfl
theorem ints_of_trod {t e : TypeId} {fuel : Nat} {sp : Nat → Bool} {hd : Bool} {cs : List Value} {x : DataW H × List MemPlace} (ht : P.underlying t = some (.slice e)) (he : P.underlying e = some (.int .i64)) (hc : P.cellsOf e = 1)
    (h : DataW.trod enc P w 0 sp hd fuel t cs = some x) : ∃ p n c zs, cs = [.slice p n c] ∧ IntsR w p n c zs ∧ zs.length ≤ 9223372036854775807 := by
  rcases Go.ChangeShapes.open_ints ht he hc h with ⟨rfl, _⟩ | ⟨a, len, cap, zs, rfl, _, hl, hm, hz, _, hcell, _⟩
  · exact ⟨none, 0, 0, [], rfl, ⟨rfl, Nat.le_refl _, by omega, fun h => absurd h (by omega)⟩, by simp⟩
  · have hlz : len ≤ zs.length := by rw [hz]; split <;> omega
    refine ⟨some a, len, cap, zs.take len, rfl, ⟨by simp; omega, hl, by simpa [maxLen] using hm, fun hpos => ?_⟩, by simp only [maxLen] at hm; simp; omega⟩
    have h0 := hcell 0 (by omega)
    have hs := spot_none h0
    have ha : a = ⟨a.block, a.off, none⟩ := by
      obtain ⟨b, o, s⟩ := a
      simp [Addr.add] at hs
      simp [hs]
    refine ⟨a.block, a.off, by rw [← ha], fun j v hj => ?_⟩
    simp only [List.getElem?_map, List.getElem?_take] at hj
    split at hj
    · rename_i hjl
      have hjz : j < zs.length := by omega
      have := hcell j hjz
      rw [ha, addr_add] at this
      rw [this]
      rw [List.getElem?_eq_getElem hjz] at hj
      simp at hj
      rw [← hj]
      simp [hjz]
    · simp at hj
theorem flatF_open {g : TypeId → Option (List C0)} {n : Nat} {sp : Nat → Bool} {hd : Bool}
    (ih : ∀ {t : TypeId} {ks : List C0} {cs : List Value} {x : DataW H × List MemPlace}, g t = some ks → DataW.trod enc P w 0 sp hd n t cs = some x → ∃ ds, Reps w cs ds ∧ ds.map D0.code = ks ∧ ∀ d ∈ ds, d.ok) :
    ∀ (fs : List Field) (o : Nat) (ks : List C0) (cs : List Value), flatF P g o fs = some ks → cs.length = o + ks.length →
      (∀ f ∈ fs, ∃ x, DataW.trod enc P w 0 sp hd n f.type ((cs.drop f.offset).take (P.cellsOf f.type)) = some x) → ∃ ds, Reps w (cs.drop o) ds ∧ ds.map D0.code = ks ∧ ∀ d ∈ ds, d.ok
  | [], o, ks, cs, hf, hl, _ => by
    simp only [flatF, Option.some.injEq] at hf
    subst hf
    rw [List.drop_of_length_le (by simp at hl; omega)]
    exact ⟨[], trivial, rfl, by simp⟩
  | f :: r, o, ks, cs, hf, hl, hx => by
    simp only [flatF] at hf
    split at hf
    · rename_i a h1 h2
      split at hf
      · rename_i b h3 h4
        have h1' := Nat.eq_of_beq_eq_true h1
        have h3' := Nat.eq_of_beq_eq_true h3
        cases hf
        rw [List.length_append] at hl
        obtain ⟨x, hx0⟩ := hx f (by simp)
        obtain ⟨ds, r1, c1, k1⟩ := ih h2 hx0
        obtain ⟨es, r2, c2, k2⟩ := flatF_open ih r (o + a.length) b cs h4 (by omega) (fun f' hf' => hx f' (by simp [hf']))
        refine ⟨ds ++ es, ?_, by simp [c1, c2], fun d hd => ?_⟩
        · rw [h1', h3'] at r1
          have : cs.drop o = (cs.drop o).take a.length ++ cs.drop (o + a.length) := by
            rw [← List.drop_drop, List.take_append_drop]
          rw [this]
          exact r1.append r2
        · rcases List.mem_append.1 hd with h | h
          · exact k1 d h
          · exact k2 d h
      · cases hf
    · cases hf
theorem flat_open {sp : Nat → Bool} {hd : Bool} : ∀ (m : Nat) {fuel : Nat} {t : TypeId} {ks : List C0} {cs : List Value} {x : DataW H × List MemPlace}, flatC P m t = some ks → DataW.trod enc P w 0 sp hd fuel t cs = some x →
    ∃ ds, Reps w cs ds ∧ ds.map D0.code = ks ∧ ∀ d ∈ ds, d.ok
  | 0, _, _, _, _, _, h, _ => by cases h
  | m + 1, fuel, t, ks, cs, x, h, ht => by
    simp only [flatC] at h
    split at h
    · rename_i hu
      obtain ⟨b, rfl, _⟩ := DataW.trod_bool hu ht
      cases h
      exact ⟨[.bool b], ⟨rfl, trivial⟩, rfl, by simp [D0.ok]⟩
    · rename_i hu
      obtain ⟨b, rfl, _, hw⟩ := DataW.trod_int hu ht
      cases h
      refine ⟨[.int b], ⟨rfl, trivial⟩, rfl, ?_⟩
      simp only [List.mem_singleton, forall_eq, D0.ok]
      simp [Lit.wf, IntKind.min, IntKind.max, IntKind.bits, IntKind.signed] at hw
      omega
    · rename_i hu
      obtain ⟨s, rfl, _, hw⟩ := DataW.trod_string hu ht
      cases h
      exact ⟨[.str s], ⟨rfl, trivial⟩, rfl, by simpa [D0.ok, maxLen] using hw⟩
    · rename_i e hu
      split at h
      · rename_i he hc
        cases h
        obtain ⟨p, n, c, zs, rfl, hr, hz⟩ := ints_of_trod hu he hc ht
        exact ⟨[.ints zs], ⟨⟨p, n, c, rfl, hr⟩, trivial⟩, rfl, by simpa [D0.ok] using hz⟩
      · cases h
    · rename_i fs hu
      split at h
      · rename_i a hf
        split at h
        · rename_i hsz
          cases h
          obtain ⟨xs, n, rfl, _, hlen, hxl, hfs⟩ := DataW.trod_struct hu ht
          have hsz' := Nat.eq_of_beq_eq_true hsz
          have := flatF_open (fun h1 h2 => flat_open m h1 h2) fs.toList 0 ks cs hf (by omega) (fun f hf => by
            obtain ⟨i, hi⟩ := List.getElem?_of_mem hf
            have hil : i < fs.size := by simpa using (List.getElem?_eq_some_iff.1 hi).1
            have := hfs i f (by simpa using hi)
            rw [List.getElem?_eq_getElem (by omega)] at this
            exact ⟨_, this⟩)
          simpa using this
        · cases h
      · cases h
    · cases h
theorem rows_open {sp : Nat → Bool} {hd : Bool} {m fuel : Nat} {t e : TypeId} {ks : List C0} {cs : List Value} {x : DataW H × List MemPlace} (hu : P.underlying t = some (.slice e)) (hk : flatC P m e = some ks) (hc : P.cellsOf e = ks.length) (hpos : 0 < ks.length)
    (ht : DataW.trod enc P w 0 sp hd fuel t cs = some x) : ∃ p n c l, cs = [.slice p n c] ∧ RowsR w ks.length p n c l ∧ (∀ y ∈ l, y.map D0.code = ks) ∧ ∀ y ∈ l, ∀ d ∈ y, d.ok := by
  rcases Go.Deep.open_slice hu ht with ⟨rfl, _⟩ | ⟨a, len, cap, mm, n, D, Pl, rfl, _, hl, hm, hmm, _, hx⟩
  · exact ⟨none, 0, 0, [], rfl, RowsR.nil _ _ _ (by omega), by simp, by simp⟩
  · have hlm : len ≤ mm := by rw [hmm]; split <;> omega
    have hex : ∀ i, i < len → ∃ ds : List D0, (∃ cs', cs'.length = ks.length ∧ Reps w cs' ds ∧ w.cells? 0 (a.add (i * ks.length)) ks.length = some cs') ∧ ds.map D0.code = ks ∧ ∀ d ∈ ds, d.ok := fun i hi => by
      obtain ⟨cs', h1, h2⟩ := hx i (by omega)
      obtain ⟨ds, r, c, k⟩ := flat_open m hk h2
      rw [hc] at h1
      exact ⟨ds, ⟨cs', (World.cells?_some h1).2.1, r, h1⟩, c, k⟩
    obtain ⟨F, hF⟩ := Go.Deep.choose_lt hex
    refine ⟨some a, len, cap, (List.range len).map F, rfl, ⟨by simp, hl, by simpa [maxLen] using hm, fun hn => ?_⟩, ?_, ?_⟩
    · obtain ⟨⟨cs', _, _, h1⟩, _⟩ := hF 0 hn
      have h0 := (World.cells?_some h1).2.2 0 hpos
      have hlen := (World.cells?_some h1).2.1
      rw [List.getElem?_eq_getElem (by omega)] at h0
      have hs := spot_none h0
      have ha : a = ⟨a.block, a.off, none⟩ := by
        obtain ⟨b, o, s⟩ := a
        simp [Addr.add] at hs
        simp [hs]
      refine ⟨a.block, a.off, by rw [← ha], fun i y hy => ?_⟩
      have hil : i < len := by
        have := (List.getElem?_eq_some_iff.1 hy).1
        simpa using this
      obtain ⟨⟨cs', q1, q2, q3⟩, _⟩ := hF i hil
      have : y = F i := by simpa [hil] using hy.symm
      subst this
      rw [ha, addr_add] at q3
      exact ⟨cs', q1, q2, (seg_of_cells (sp := none) q3).2⟩
    · intro y hy
      obtain ⟨i, hi, rfl⟩ := List.mem_map.1 hy
      exact (hF i (by simpa using hi)).2.1
    · intro y hy
      obtain ⟨i, hi, rfl⟩ := List.mem_map.1 hy
      exact (hF i (by simpa using hi)).2.2
end
end Go.Proofs.YtmajiilehdpdmaaGreat.Sx
