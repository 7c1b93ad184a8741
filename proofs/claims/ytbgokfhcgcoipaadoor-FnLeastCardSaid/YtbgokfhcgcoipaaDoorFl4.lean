/-
  Parts of the proof of fnLeast_holds: CRatC, CRoundA, CRoundB, CAggM, CRatM, CMoneyAS, CTaxRateOk, CRatMoney, CPercentL, CTaxOn, CBalanceOf, CNextRow, CPlanDone, CPushF, SxChan, GC, CPlanP, CRowX, CPlan, CPlanL, CLeastL.
  Conditions: none.
-/
import Derived.Conc.LoneCalls
import Derived.Test.YtbgokfhcgcoipaaDoorFl3
set_option linter.unusedVariables false
set_option linter.unusedSimpArgs false
namespace Go.Conc
end Go.Conc
namespace Go.RowKit
end Go.RowKit

namespace Go.Proofs.YtbgokfhcgcoipaaDoor
open Go Go.Proofs.YtbgokfhcgcoipaaDoor.Sx
theorem lt_of_len {x i : Nat} (h : (digs x).length <= i) : x < 1000000000 ^ i := by
  have h1 := val_lt (digs_limbs x)
  rw [val_digs] at h1
  have : ((x : Nat) : Int) < ((1000000000 ^ (digs x).length : Nat) : Int) := by simpa using h1
  exact Nat.lt_of_lt_of_le (Int.ofNat_lt.1 this) (Nat.pow_le_pow_right (by decide) h)
theorem sum_len {x y : Int} {i : Nat} (hx : (digs x.natAbs).length <= i) (hy : (digs y.natAbs).length <= i) : (digs (x + y).natAbs).length <= i + 1 := by
  apply digs_len
  have h1 := lt_of_len hx; have h2 := lt_of_len hy
  have h3 : (x + y).natAbs <= x.natAbs + y.natAbs := Int.natAbs_add_le x y
  rw [Nat.pow_succ]
  omega
theorem ratOk_neg {N : Int} {D : Nat} (h : ratOk (rmk N D) = true) : ratOk (rmk (-N) D) = true := by
  obtain ⟨_, h1, h2, h3, h4⟩ := ratOk_enc h
  rw [ratNum_rmk] at h2 h3
  rw [ratDen_rmk] at h1 h2 h4
  exact ratOk_rmk h1 (by rw [Int.natAbs_neg]; exact h2) (by rw [Int.natAbs_neg]; exact h3) h4
theorem cross_len {N : Int} {E : Nat} (hN : (digs N.natAbs).length <= 18) (hE : (digs E).length <= 18) : (digs (N * (E : Int)).natAbs).length <= 36 := by
  rw [Int.natAbs_mul, Int.natAbs_natCast]
  exact prod_len hN hE
theorem impl_Rat_num_n {w : World} {xs : List Value} {N : Int} {D E : Nat} {p : Option Addr} {m c : Nat} (h : Reps w xs (rmk N D)) (hok : ratOk (rmk N D) = true) (k : IntsR w p m c (digs E)) (hm : m <= 100) :
    Ret P n_impl_Rat_num [.agg ⟨xs⟩, .slice p m c] w fun v w' => ∃ vs f, v = .agg ⟨vs⟩ /\ Owns w' w.heap.size vs (enc (N * E)) f /\ f.Nodup /\ Ext w w' := by
  obtain ⟨p1, n1, c1, q1, m1, d1, rfl, i1, i2, li1, li2, he, hd1⟩ := rmk_open h hok
  have ei1 := i1.1; have ek := k.1
  refine impl_Rat_num_ret ?_
  unfold impl_Rat_num
  intro r w1 hn1 r1 w2 hn2
  have e1 := hn1.r_eq; have e2 := hn2.r_eq; have z1 := hn1.size; have z2 := hn2.size
  have D := Ext.drew w2
  have lD := D.le
  have X := (hn1.ext.trans hn2.ext).trans D
  have b0 := (hn1.blk.ext hn2.ext).ext D; have b1 := hn2.blk.ext D
  refine ⟨_, fun W hW => (b0.ext hW).loadAt 0 rfl (by kernel_rfl) rfl, _, _, _, fun W hW => (b0.ext hW).loadAt 1 rfl (by kernel_rfl) rfl, ?_⟩
  refine Ret.at (impl_natMul_c (i1.ext X) (k.ext X) (digs_limbs _) (digs_limbs _) (by omega) (by omega)) ?_
  rintro v w4 ⟨p4, n4, c4, hv, o4, y4⟩
  subst hv
  rw [val_mul] at o4
  refine ⟨_, _, _, rfl, y4, ?_⟩
  refine Ret.at (impl_signed_c (neg := decide (N < 0)) o4.ints.1) ?_
  rintro v w5 ⟨hv, y5⟩
  subst hv
  have sg : N * (E : Int) ≠ 0 -> decide (N < 0) = decide (N * (E : Int) < 0) := fun hh => by
    have := mul_sign hh
    rw [<- this, decide_eq_false (show ¬ (E : Int) < 0 by omega)]
    cases decide (N < 0) <;> rfl
  obtain ⟨W', st, ld, ow, xx, _, _⟩ := agg_end (t := T_impl_Signed) ((b1.ext y4).ext y5) ((X.trans y4).trans y5) (by omega) (own_int (o4.ext y5) (z := N * (E : Int)) (by rw [Int.natAbs_mul, Int.natAbs_natCast]) sg) (by kernel_rfl) rfl (by omega) (by omega)
  exact ⟨_, _, _, _, rfl, W', st, _, _, _, _, ld, _, _, rfl, ow, nodup_opt p4, xx⟩
theorem impl_RatAdd_n {w : World} {xs ys : List Value} {N1 N2 : Int} {D1 D2 : Nat} (h : Reps w xs (rmk N1 D1)) (g : Reps w ys (rmk N2 D2)) (hok : ratOk (rmk N1 D1) = true) (gok : ratOk (rmk N2 D2) = true) :
    Ret P n_impl_RatAdd [.agg ⟨xs⟩, .agg ⟨ys⟩] w fun v w' => ∃ vs f, v = .tuple #[.agg ⟨vs⟩, .bool (redOk (N1 * D2 + N2 * D1) (D1 * D2))] /\ Owns w' w.heap.size vs (redR (N1 * D2 + N2 * D1) (D1 * D2)) f /\ f.Nodup /\ Ext w w' := by
  have hr := h; have gr := g
  obtain ⟨p1, n1, c1, q1, m1, d1, rfl, i1, i2, li1, li2, he, hd1⟩ := rmk_open h hok
  obtain ⟨p2, n2, c2, q2, m2, d2, rfl, j1, j2, lj1, lj2, ke, hd2⟩ := rmk_open g gok
  have ei1 := i1.1; have ei2 := i2.1; have ej1 := j1.1; have ej2 := j2.1
  have pN := prod_len (x := N1.natAbs) (y := N2.natAbs) (i := 18) (j := 18) (by omega) (by omega)
  have pD := prod_len (x := D1) (y := D2) (i := 18) (j := 18) (by omega) (by omega)
  refine impl_RatAdd_ret ?_
  unfold impl_RatAdd
  intro r w1 hn1 r1 w2 hn2 r2 w3 hn3
  have e1 := hn1.r_eq; have e2 := hn2.r_eq; have e3 := hn3.r_eq; have z1 := hn1.size; have z2 := hn2.size; have z3 := hn3.size
  have X := (hn1.ext.trans hn2.ext).trans hn3.ext
  have b0 := (hn1.blk.ext hn2.ext).ext hn3.ext; have b1 := hn2.blk.ext hn3.ext; have b2 := hn3.blk
  refine ⟨_, _, _, _, _, _, _, b0.loadA0 (by kernel_rfl), _, _, _, _, _, _, _, b1.loadA0 (by kernel_rfl), ?_⟩
  refine Ret.at (impl_ratsOk_c (hr.ext X) (gr.ext X) hok gok) ?_
  rintro v w4 ⟨hv, y4⟩
  subst hv
  refine ⟨_, rfl, ifN (fun hh => absurd hh (by simp)) (fun _ => ?_)⟩
  have D := Ext.drew w4
  have Y := y4.trans D
  have X4 := X.trans Y
  have lY := Y.le
  have b0 := b0.ext Y; have b1 := b1.ext Y; have b2 := b2.ext Y
  have D' := Ext.drew w4.drew
  have X5 := X4.trans D'
  have lD' := D'.le
  have b0' := b0.ext D'; have b1' := b1.ext D'; have b2' := b2.ext D'
  refine ⟨_, _, _, _, _, _, _, fun W hW => (b0.ext hW).loadA0 (by kernel_rfl), _, _, _, _, _, _, _, fun W hW => (b1.ext hW).loadA0 (by kernel_rfl), _, _, _, fun W hW => (b1'.ext hW).loadAt 2 rfl (by kernel_rfl) rfl, _, _, _, rfl, by kernel_rfl, ?_⟩
  refine Calls.mono (impl_Rat_num_n (hr.ext X5) hok (j2.ext X5) (by omega)) ?_
  rintro e w5 ⟨v, he5, vs5, f5, hv, ho5, _, y5⟩
  subst hv
  obtain ⟨s0, sp, sn, sc, sz, rfl, _, _⟩ := open_Signed ho5.reps (enc_code _)
  refine ⟨_, _, _, _, he5, y5, _, _, _, fun W hW => (b0'.ext hW).loadAt 2 rfl (by kernel_rfl) rfl, _, _, _, rfl, by kernel_rfl, ?_⟩
  refine Calls.mono (impl_Rat_num_n (gr.ext (X5.trans y5)) gok (i2.ext (X5.trans y5)) (by omega)) ?_
  rintro e w6 ⟨v, he6, vs6, f6, hv, ho6, _, y6⟩
  subst hv
  obtain ⟨u0, up, un, uc, uz, rfl, _, _⟩ := open_Signed ho6.reps (enc_code _)
  refine ⟨_, _, _, _, he6, y6, ?_⟩
  have t1 := cross_len (N := N1) (E := D2) (by omega) (by omega)
  have t2 := cross_len (N := N2) (E := D1) (by omega) (by omega)
  have t3 := sum_len t1 t2
  refine Ret.at (impl_intAdd_c (ho5.reps.ext y6) ho6.reps (by omega) (by omega)) ?_
  rintro v w7 ⟨p7, n7, c7, hv, o7, y7⟩
  subst hv
  refine ⟨_, _, _, _, rfl, y7, _, _, _, fun W hW => (b0'.ext hW).loadAt 2 rfl (by kernel_rfl) rfl, _, _, _, fun W hW => (b1'.ext hW).loadAt 2 rfl (by kernel_rfl) rfl, ?_⟩
  have Y7 := (y5.trans y6).trans y7
  refine Ret.at (impl_natMul_c (i2.ext (X5.trans Y7)) (j2.ext (X5.trans Y7)) (digs_limbs _) (digs_limbs _) (by omega) (by omega)) ?_
  rintro v w8 ⟨p8, n8, c8, hv, o8, y8⟩
  subst hv
  rw [val_mul] at o8
  have l8 := o8.ints.1
  have lY7 := Y7.le; have ly8 := y8.le
  refine ⟨_, _, _, rfl, ?_⟩
  have hs : Reps w8 [.bool (decide (N1 * (D2 : Int) + N2 * (D1 : Int) < 0)), .slice p7 n7 c7] (enc (N1 * D2 + N2 * D1)) := ⟨rfl, ⟨_, _, _, rfl, o7.ints.ext y8⟩, trivial⟩
  refine Ret.at (impl_reduce_c hs o8.ints (Nat.mul_pos hd1 hd2) (by omega) (by omega)) ?_
  rintro v w99 ⟨vs9, f9, hv, ho9, nd9, y99⟩
  subst hv
  obtain ⟨zb, zp, zn, zc, zz, zp2, zn2, zc2, zz2, rfl, _, _, _⟩ := open_Rat ho9.reps (redR_code _ _)
  obtain ⟨W', st', ld', ow', xx', _, _⟩ := agg_end (t := T_impl_Rat) (((b2'.ext Y7).ext y8).ext y99) (((X5.trans Y7).trans y8).trans y99) (by omega) ho9 (by kernel_rfl) rfl (by omega) (by omega)
  exact ⟨_, _, _, _, _, _, _, _, rfl, W', st', _, _, _, _, _, _, _, ld', _, f9, rfl, ow', nd9, xx'⟩
  
theorem impl_RatSub_n {w : World} {xs ys : List Value} {N1 N2 : Int} {D1 D2 : Nat} (h : Reps w xs (rmk N1 D1)) (g : Reps w ys (rmk N2 D2)) (hok : ratOk (rmk N1 D1) = true) (gok : ratOk (rmk N2 D2) = true) :
    Ret P n_impl_RatSub [.agg ⟨xs⟩, .agg ⟨ys⟩] w fun v w' => ∃ vs f, v = .tuple #[.agg ⟨vs⟩, .bool (redOk (N1 * D2 + -N2 * D1) (D1 * D2))] /\ Owns w' w.heap.size vs (redR (N1 * D2 + -N2 * D1) (D1 * D2)) f /\ f.Nodup /\ Ext w w' := by
  have hr := h; have gr := g
  obtain ⟨p1, n1, c1, q1, m1, d1, rfl, i1, i2, li1, li2, he, hd1⟩ := rmk_open h hok
  obtain ⟨p2, n2, c2, q2, m2, d2, rfl, j1, j2, lj1, lj2, ke, hd2⟩ := rmk_open g gok
  have ei1 := i1.1; have ei2 := i2.1; have ej1 := j1.1; have ej2 := j2.1
  have pN := prod_len (x := N1.natAbs) (y := N2.natAbs) (i := 18) (j := 18) (by omega) (by omega)
  have pD := prod_len (x := D1) (y := D2) (i := 18) (j := 18) (by omega) (by omega)
  refine impl_RatSub_ret ?_
  unfold impl_RatSub
  intro r w1 hn1 r1 w2 hn2 r2 w3 hn3
  have e1 := hn1.r_eq; have e2 := hn2.r_eq; have e3 := hn3.r_eq; have z1 := hn1.size; have z2 := hn2.size; have z3 := hn3.size
  have X := (hn1.ext.trans hn2.ext).trans hn3.ext
  have b0 := (hn1.blk.ext hn2.ext).ext hn3.ext; have b1 := hn2.blk.ext hn3.ext; have b2 := hn3.blk
  refine ⟨_, _, _, _, _, _, _, b0.loadA0 (by kernel_rfl), _, _, _, _, _, _, _, b1.loadA0 (by kernel_rfl), ?_⟩
  refine Ret.at (impl_ratsOk_c (hr.ext X) (gr.ext X) hok gok) ?_
  rintro v w4 ⟨hv, y4⟩
  subst hv
  refine ⟨_, rfl, ifN (fun hh => absurd hh (by simp)) (fun _ => ?_)⟩
  have D := Ext.drew w4
  have Y := y4.trans D
  have X4 := X.trans Y
  have lY := Y.le
  have b0 := b0.ext Y; have b1 := b1.ext Y; have b2 := b2.ext Y
  refine ⟨_, _, _, _, _, _, _, fun W hW => (b0.ext hW).loadA0 (by kernel_rfl), _, _, _, _, _, _, _, fun W hW => (b1.ext hW).loadA0 (by kernel_rfl), ?_⟩
  refine Ret.at (impl_ratNeg_c (gr.ext X4) (rmk_code _ _) gok) ?_
  rintro v w5 ⟨vs5, f5, hv, ho5, _, y5⟩
  subst hv
  rw [ratNum_rmk, ratDen_rmk] at ho5
  have hr5 := ho5.reps
  obtain ⟨s0, sp, sn, sc, sz, sp2, sn2, sc2, sz2, rfl, _, _, _⟩ := open_Rat hr5 (rmk_code _ _)
  have l5 := y5.le
  refine ⟨_, _, _, _, _, _, _, rfl, y5, ?_⟩
  refine Ret.at (impl_RatAdd_n (hr.ext (X4.trans y5)) hr5 hok (ratOk_neg gok)) ?_
  rintro v w99 ⟨vs9, f9, hv, ho9, nd9, y99⟩
  subst hv
  obtain ⟨zb, zp, zn, zc, zz, zp2, zn2, zc2, zz2, rfl, _, _, _⟩ := open_Rat ho9.reps (redR_code _ _)
  obtain ⟨W', st', ld', ow', xx', _, _⟩ := agg_end (t := T_impl_Rat) ((b2.ext y5).ext y99) ((X4.trans y5).trans y99) (by omega) ho9 (by kernel_rfl) rfl (by omega) (by omega)
  exact ⟨_, _, _, _, _, _, _, _, rfl, W', st', _, _, _, _, _, _, _, ld', _, f9, rfl, ow', nd9, xx'⟩
  
end Go.Proofs.YtbgokfhcgcoipaaDoor
namespace Go.Proofs.YtbgokfhcgcoipaaDoor
open Go Go.Proofs.YtbgokfhcgcoipaaDoor.Sx
theorem digs_one_r {W : World} {r : Nat} (hb : Blk W r T_int [.int .i64 1]) : IntsR W (some ⟨r, 0, none⟩) 1 1 (digs 1) := by
  rw [digs_one]
  exact ⟨rfl, Nat.le_refl _, by omega, fun _ => ⟨_, 0, rfl, hb.seg⟩⟩
theorem val_add' (m k : Nat) : (val (digs m) + val (digs k)).toNat = m + k := by rw [val_digs, val_digs, <- Int.natCast_add, Int.toNat_natCast]
theorem odd_even (q : Nat) : (!(decide (q % 2 = 0))) = decide (q % 2 = 1) := by
  rcases Nat.mod_two_eq_zero_or_one q with h | h <;> simp [h]
theorem impl_NatEven_n {w : World} {p : Option Addr} {n c q : Nat} (h : IntsR w p n c (digs q)) (hn : n <= 50) :
    Ret P n_impl_NatEven [.slice p n c] w fun v w' => v = .bool (decide (q % 2 = 0)) /\ Ext w w' := by
  have hl := h.1
  refine impl_NatEven_ret ?_
  unfold impl_NatEven
  refine Ret.at (impl_NatOk_c h) ?_
  rintro v w1 ⟨hv, y1⟩
  subst hv
  rw [natOk_spec.2 ⟨digs_canon q, by omega⟩]
  refine ⟨_, rfl, ifT (ifD (fun h0 => ⟨?_, y1⟩) (fun h0 => ?_))⟩
  · have : q % 2 = 0 := even_head.1 (.inl (by omega))
    rw [decide_eq_true this]
  · obtain ⟨ad, hp', hld⟩ := (h.ext y1).at (P := P) (t := T_int) (by kernel_rfl) (k := 0) (by omega)
    subst hp'
    have hx := digs_limbs q _ (List.getElem_mem (show 0 < (digs q).length by omega))
    refine ⟨⟨by omega, by omega⟩, _, by simpa using hld, by decide, _, rfl, ?_, y1⟩
    rw [Int.tmod_eq_emod_of_nonneg hx.1]
    have e : (digs q)[0]'(by omega) = (digs q).getD 0 0 := by rw [List.getD_eq_getElem?_getD, List.getElem?_eq_getElem (by omega)]; rfl
    rw [e]
    exact congrArg Value.bool (decide_eq_decide.2 ⟨fun hh => even_head.1 (.inr hh), fun hh => (even_head.2 hh).resolve_left (by omega)⟩)
theorem impl_roundModes_1_n (neg : Bool) (half : Int) (odd : Bool) (w : World) : Ret P n_impl_roundModes_1 [.bool neg, .int .i64 half, .bool odd] w fun v w' => v = .bool (modeAway 0 neg half odd) /\ w' = w := by
  refine impl_roundModes_1_ret ?_
  unfold impl_roundModes_1
  exact ⟨rfl, rfl⟩
theorem impl_roundModes_2_n (neg : Bool) (half : Int) (odd : Bool) (w : World) : Ret P n_impl_roundModes_2 [.bool neg, .int .i64 half, .bool odd] w fun v w' => v = .bool (modeAway 1 neg half odd) /\ w' = w := by
  refine impl_roundModes_2_ret ?_
  unfold impl_roundModes_2
  exact ⟨rfl, rfl⟩
theorem impl_roundModes_3_n (neg : Bool) (half : Int) (odd : Bool) (w : World) : Ret P n_impl_roundModes_3 [.bool neg, .int .i64 half, .bool odd] w fun v w' => v = .bool (modeAway 2 neg half odd) /\ w' = w := by
  refine impl_roundModes_3_ret ?_
  unfold impl_roundModes_3
  exact ⟨rfl, rfl⟩
theorem impl_roundModes_4_n (neg : Bool) (half : Int) (odd : Bool) (w : World) : Ret P n_impl_roundModes_4 [.bool neg, .int .i64 half, .bool odd] w fun v w' => v = .bool (modeAway 3 neg half odd) /\ w' = w := by
  refine impl_roundModes_4_ret ?_
  unfold impl_roundModes_4
  exact ⟨rfl, rfl⟩
theorem impl_roundModes_5_n (neg : Bool) (half : Int) (odd : Bool) (w : World) : Ret P n_impl_roundModes_5 [.bool neg, .int .i64 half, .bool odd] w fun v w' => v = .bool (modeAway 4 neg half odd) /\ w' = w := by
  refine impl_roundModes_5_ret ?_
  unfold impl_roundModes_5
  exact ⟨rfl, rfl⟩
theorem impl_roundModes_6_n (neg : Bool) (half : Int) (odd : Bool) (w : World) : Ret P n_impl_roundModes_6 [.bool neg, .int .i64 half, .bool odd] w fun v w' => v = .bool (modeAway 5 neg half odd) /\ w' = w := by
  refine impl_roundModes_6_ret ?_
  unfold impl_roundModes_6
  exact ⟨rfl, rfl⟩
theorem impl_roundModes_7_n (neg : Bool) (half : Int) (odd : Bool) (w : World) : Ret P n_impl_roundModes_7 [.bool neg, .int .i64 half, .bool odd] w fun v w' => v = .bool (modeAway 6 neg half odd) /\ w' = w := by
  refine impl_roundModes_7_ret ?_
  unfold impl_roundModes_7
  refine ifD (fun h => ⟨?_, rfl⟩) (fun h => ifD (fun h0 => ⟨?_, rfl⟩) (fun h0 => ⟨?_, rfl⟩))
  · simp [modeAway, h]
  · simp [modeAway, h0]
  · simp [modeAway, h, h0]
def modeCells : List Value := [.string (S [100, 111, 119, 110]), .func (.func n_impl_roundModes_1) #[] #[], .string (S [117, 112]), .func (.func n_impl_roundModes_2) #[] #[], .string (S [102, 108, 111, 111, 114]), .func (.func n_impl_roundModes_3) #[] #[], .string (S [99, 101, 105, 108]), .func (.func n_impl_roundModes_4) #[] #[], .string (S [104, 97, 108, 102, 100, 111, 119, 110]), .func (.func n_impl_roundModes_5) #[] #[], .string (S [104, 97, 108, 102, 117, 112]), .func (.func n_impl_roundModes_6) #[] #[], .string (S [104, 97, 108, 102, 101, 118, 101, 110]), .func (.func n_impl_roundModes_7) #[] #[]]
theorem impl_roundModes_n (w : World) : Ret P n_impl_roundModes [] w fun v w' => v = .agg ⟨modeCells⟩ /\ Ext w w' := by
  refine impl_roundModes_ret ?_
  unfold impl_roundModes
  intro r w1 hn1
  obtain ⟨w2, st, hb2, y2⟩ := hn1.fill (P := P) (t := T_7_impl_roundMode) (xs := modeCells) (by simp [modeCells, Value.oneCell']) (by kernel_rfl) rfl
  exact ⟨w2, st, _, _, _, _, _, _, _, _, _, _, _, _, _, _, hb2.loadA0 (by kernel_rfl), rfl, y2⟩
theorem mode_call {m : Int} (h0 : 0 <= m) (h1 : m <= 6) (neg : Bool) (half : Int) (odd : Bool) : ∃ fl : Value, (∀ K : Value -> Prop, K fl -> indexS P T_7_impl_roundMode (.agg ⟨modeCells⟩) (.int .i64 m) fun el => fieldS P T_impl_roundMode el 1 fun f => K f) /\
    ∀ (w : World) (Q : Ending -> World -> Prop), Q (.returned (.bool (modeAway m neg half odd))) w -> CallW P fl [.bool neg, .int .i64 half, .bool odd] w Q := by
  have hm : m = 0 ∨ m = 1 ∨ m = 2 ∨ m = 3 ∨ m = 4 ∨ m = 5 ∨ m = 6 := by omega
  rcases hm with rfl | rfl | rfl | rfl | rfl | rfl | rfl
  · refine ⟨.func (.func n_impl_roundModes_1) #[] #[], fun K hK => ?_, fun w Q hQ => ?_⟩
    · have e : (indexS P T_7_impl_roundMode (.agg ⟨modeCells⟩) (.int .i64 0) fun el => fieldS P T_impl_roundMode el 1 fun f => K f) = (((0 : Int) <= 0 /\ (0 : Int) < (7 : Nat)) /\ ∃ v, (Value.agg #[modeCells.getD 0 .nilFunc, modeCells.getD 1 .nilFunc] = v) /\ fieldS P T_impl_roundMode v 1 fun f => K f) := by kernel_rfl
      rw [e]
      refine ⟨⟨by omega, by omega⟩, _, rfl, ?_⟩
      have e2 : (fieldS P T_impl_roundMode (Value.agg #[modeCells.getD 0 .nilFunc, modeCells.getD 1 .nilFunc]) 1 fun f => K f) = K (modeCells.getD 1 .nilFunc) := by kernel_rfl
      rw [e2]
      exact hK
    · refine ⟨_, [], [], rfl, by kernel_rfl, Calls.mono (impl_roundModes_1_n neg half odd w) ?_⟩
      rintro e w' ⟨v, he, hv, hw⟩
      subst he; subst hv; subst hw
      exact hQ
  · refine ⟨.func (.func n_impl_roundModes_2) #[] #[], fun K hK => ?_, fun w Q hQ => ?_⟩
    · have e : (indexS P T_7_impl_roundMode (.agg ⟨modeCells⟩) (.int .i64 1) fun el => fieldS P T_impl_roundMode el 1 fun f => K f) = (((0 : Int) <= 1 /\ (1 : Int) < (7 : Nat)) /\ ∃ v, (Value.agg #[modeCells.getD 2 .nilFunc, modeCells.getD 3 .nilFunc] = v) /\ fieldS P T_impl_roundMode v 1 fun f => K f) := by kernel_rfl
      rw [e]
      refine ⟨⟨by omega, by omega⟩, _, rfl, ?_⟩
      have e2 : (fieldS P T_impl_roundMode (Value.agg #[modeCells.getD 2 .nilFunc, modeCells.getD 3 .nilFunc]) 1 fun f => K f) = K (modeCells.getD 3 .nilFunc) := by kernel_rfl
      rw [e2]
      exact hK
    · refine ⟨_, [], [], rfl, by kernel_rfl, Calls.mono (impl_roundModes_2_n neg half odd w) ?_⟩
      rintro e w' ⟨v, he, hv, hw⟩
      subst he; subst hv; subst hw
      exact hQ
  · refine ⟨.func (.func n_impl_roundModes_3) #[] #[], fun K hK => ?_, fun w Q hQ => ?_⟩
    · have e : (indexS P T_7_impl_roundMode (.agg ⟨modeCells⟩) (.int .i64 2) fun el => fieldS P T_impl_roundMode el 1 fun f => K f) = (((0 : Int) <= 2 /\ (2 : Int) < (7 : Nat)) /\ ∃ v, (Value.agg #[modeCells.getD 4 .nilFunc, modeCells.getD 5 .nilFunc] = v) /\ fieldS P T_impl_roundMode v 1 fun f => K f) := by kernel_rfl
      rw [e]
      refine ⟨⟨by omega, by omega⟩, _, rfl, ?_⟩
      have e2 : (fieldS P T_impl_roundMode (Value.agg #[modeCells.getD 4 .nilFunc, modeCells.getD 5 .nilFunc]) 1 fun f => K f) = K (modeCells.getD 5 .nilFunc) := by kernel_rfl
      rw [e2]
      exact hK
    · refine ⟨_, [], [], rfl, by kernel_rfl, Calls.mono (impl_roundModes_3_n neg half odd w) ?_⟩
      rintro e w' ⟨v, he, hv, hw⟩
      subst he; subst hv; subst hw
      exact hQ
  · refine ⟨.func (.func n_impl_roundModes_4) #[] #[], fun K hK => ?_, fun w Q hQ => ?_⟩
    · have e : (indexS P T_7_impl_roundMode (.agg ⟨modeCells⟩) (.int .i64 3) fun el => fieldS P T_impl_roundMode el 1 fun f => K f) = (((0 : Int) <= 3 /\ (3 : Int) < (7 : Nat)) /\ ∃ v, (Value.agg #[modeCells.getD 6 .nilFunc, modeCells.getD 7 .nilFunc] = v) /\ fieldS P T_impl_roundMode v 1 fun f => K f) := by kernel_rfl
      rw [e]
      refine ⟨⟨by omega, by omega⟩, _, rfl, ?_⟩
      have e2 : (fieldS P T_impl_roundMode (Value.agg #[modeCells.getD 6 .nilFunc, modeCells.getD 7 .nilFunc]) 1 fun f => K f) = K (modeCells.getD 7 .nilFunc) := by kernel_rfl
      rw [e2]
      exact hK
    · refine ⟨_, [], [], rfl, by kernel_rfl, Calls.mono (impl_roundModes_4_n neg half odd w) ?_⟩
      rintro e w' ⟨v, he, hv, hw⟩
      subst he; subst hv; subst hw
      exact hQ
  · refine ⟨.func (.func n_impl_roundModes_5) #[] #[], fun K hK => ?_, fun w Q hQ => ?_⟩
    · have e : (indexS P T_7_impl_roundMode (.agg ⟨modeCells⟩) (.int .i64 4) fun el => fieldS P T_impl_roundMode el 1 fun f => K f) = (((0 : Int) <= 4 /\ (4 : Int) < (7 : Nat)) /\ ∃ v, (Value.agg #[modeCells.getD 8 .nilFunc, modeCells.getD 9 .nilFunc] = v) /\ fieldS P T_impl_roundMode v 1 fun f => K f) := by kernel_rfl
      rw [e]
      refine ⟨⟨by omega, by omega⟩, _, rfl, ?_⟩
      have e2 : (fieldS P T_impl_roundMode (Value.agg #[modeCells.getD 8 .nilFunc, modeCells.getD 9 .nilFunc]) 1 fun f => K f) = K (modeCells.getD 9 .nilFunc) := by kernel_rfl
      rw [e2]
      exact hK
    · refine ⟨_, [], [], rfl, by kernel_rfl, Calls.mono (impl_roundModes_5_n neg half odd w) ?_⟩
      rintro e w' ⟨v, he, hv, hw⟩
      subst he; subst hv; subst hw
      exact hQ
  · refine ⟨.func (.func n_impl_roundModes_6) #[] #[], fun K hK => ?_, fun w Q hQ => ?_⟩
    · have e : (indexS P T_7_impl_roundMode (.agg ⟨modeCells⟩) (.int .i64 5) fun el => fieldS P T_impl_roundMode el 1 fun f => K f) = (((0 : Int) <= 5 /\ (5 : Int) < (7 : Nat)) /\ ∃ v, (Value.agg #[modeCells.getD 10 .nilFunc, modeCells.getD 11 .nilFunc] = v) /\ fieldS P T_impl_roundMode v 1 fun f => K f) := by kernel_rfl
      rw [e]
      refine ⟨⟨by omega, by omega⟩, _, rfl, ?_⟩
      have e2 : (fieldS P T_impl_roundMode (Value.agg #[modeCells.getD 10 .nilFunc, modeCells.getD 11 .nilFunc]) 1 fun f => K f) = K (modeCells.getD 11 .nilFunc) := by kernel_rfl
      rw [e2]
      exact hK
    · refine ⟨_, [], [], rfl, by kernel_rfl, Calls.mono (impl_roundModes_6_n neg half odd w) ?_⟩
      rintro e w' ⟨v, he, hv, hw⟩
      subst he; subst hv; subst hw
      exact hQ
  · refine ⟨.func (.func n_impl_roundModes_7) #[] #[], fun K hK => ?_, fun w Q hQ => ?_⟩
    · have e : (indexS P T_7_impl_roundMode (.agg ⟨modeCells⟩) (.int .i64 6) fun el => fieldS P T_impl_roundMode el 1 fun f => K f) = (((0 : Int) <= 6 /\ (6 : Int) < (7 : Nat)) /\ ∃ v, (Value.agg #[modeCells.getD 12 .nilFunc, modeCells.getD 13 .nilFunc] = v) /\ fieldS P T_impl_roundMode v 1 fun f => K f) := by kernel_rfl
      rw [e]
      refine ⟨⟨by omega, by omega⟩, _, rfl, ?_⟩
      have e2 : (fieldS P T_impl_roundMode (Value.agg #[modeCells.getD 12 .nilFunc, modeCells.getD 13 .nilFunc]) 1 fun f => K f) = K (modeCells.getD 13 .nilFunc) := by kernel_rfl
      rw [e2]
      exact hK
    · refine ⟨_, [], [], rfl, by kernel_rfl, Calls.mono (impl_roundModes_7_n neg half odd w) ?_⟩
      rintro e w' ⟨v, he, hv, hw⟩
      subst he; subst hv; subst hw
      exact hQ
end Go.Proofs.YtbgokfhcgcoipaaDoor
namespace Go.Proofs.YtbgokfhcgcoipaaDoor
open Go Go.Proofs.YtbgokfhcgcoipaaDoor.Sx
def modeOk (m : Int) : Bool := decide (0 <= m /\ m <= 6)
theorem rround_sign {n : Int} {d : Nat} {m : Int} (h : rround n d m ≠ 0) : decide (n < 0) = decide (rround n d m < 0) := by
  have e : rround n d m = if n < 0 then -((roundM n d m : Nat) : Int) else ((roundM n d m : Nat) : Int) := rfl
  by_cases hn : n < 0
  · rw [if_pos hn] at e
    rw [decide_eq_true hn, decide_eq_true (show rround n d m < 0 by omega)]
  · rw [if_neg hn] at e
    rw [decide_eq_false hn, decide_eq_false (show ¬ rround n d m < 0 by omega)]
theorem roundM_len {n : Int} {d : Nat} {m : Int} {k : Nat} (hd : 0 < d) (h : (digs n.natAbs).length <= k) : (digs (roundM n d m)).length <= k + 1 := by
  apply digs_len
  have h1 := lt_of_len h
  have h2 := roundM_le n d m
  have h3 := Nat.div_le_self n.natAbs d
  have h4 : 0 < 1000000000 ^ k := Nat.pow_pos (by decide)
  rw [Nat.pow_succ]
  omega
theorem impl_isMode_c (m : Int) (w : World) : Ret P n_impl_isMode [.int .i64 m] w fun v w' => v = .bool (modeOk m) /\ w' = w := by
  refine impl_isMode_ret ?_
  unfold impl_isMode
  refine ifD (fun h => ⟨?_, rfl⟩) (fun h => ⟨?_, rfl⟩)
  · exact congrArg Value.bool (decide_eq_decide.2 (by omega))
  · rw [modeOk, decide_eq_false (by omega)]
set_option maxRecDepth 100000 in
theorem impl_roundQuotient_n {w : World} {xs : List Value} {x : Int} {d : Nat} {p : Option Addr} {n c : Nat} {m : Int} (h : Reps w xs (enc x)) (k : IntsR w p n c (digs d)) (hd : 0 < d) (hx : (digs x.natAbs).length <= 40) (hn : n <= 40) (hm : modeOk m = true) :
    Ret P n_impl_roundQuotient [.agg ⟨xs⟩, .slice p n c, .int .i64 m] w fun v w' => ∃ vs f, v = .agg ⟨vs⟩ /\ Owns w' w.heap.size vs (enc (rround x d m)) f /\ f.Nodup /\ Ext w w' := by
  have hm' := of_decide_eq_true hm
  obtain ⟨a0, ap, an, ac, az, rfl, hda, ha⟩ := open_Signed h (enc_code _)
  simp only [enc, List.cons.injEq, D0.bool.injEq, D0.ints.injEq, and_true] at hda
  obtain ⟨rfl, rfl⟩ := hda
  have hla := ha.1; have hlk := k.1
  have hd0 := digs_pos_len.2 (show d ≠ 0 by omega)
  refine impl_roundQuotient_ret ?_
  unfold impl_roundQuotient
  intro r w1 hn1 r1 w2 hn2
  have e1 := hn1.r_eq; have e2 := hn2.r_eq; have z1 := hn1.size; have z2 := hn2.size
  have X := hn1.ext.trans hn2.ext
  have b0 := hn1.blk.ext hn2.ext; have b1 := hn2.blk
  have fin : ∀ W p' n' c' M, Ext w2 W -> Own W w2.heap.size T_int 1 p' n' c' ((digs M).map (Value.int .i64)) -> M = roundM x d m -> impl_roundQuotient_j0 r r1 p' n' c' W fun v w' => ∃ vs f, v = .agg ⟨vs⟩ /\ Owns w' w.heap.size vs (enc (rround x d m)) f /\ f.Nodup /\ Ext w w' := by
    intro W p' n' c' M hW hO hM
    unfold impl_roundQuotient_j0
    refine ⟨_, (b0.ext hW).loadAt 0 rfl (by kernel_rfl) rfl, ?_⟩
    refine Ret.at (impl_signed_c (neg := decide (x < 0)) hO.ints.1) ?_
    rintro v w5 ⟨hv, y5⟩
    subst hv
    obtain ⟨W', st, ld, ow, xx, _, _⟩ := agg_end (t := T_impl_Signed) (b1.ext (hW.trans y5)) (X.trans (hW.trans y5)) (by omega) (own_int (hO.ext y5) (z := rround x d m) (by rw [rround_abs]; exact hM) rround_sign) (by kernel_rfl) rfl (by omega) (by omega)
    exact ⟨_, _, _, _, rfl, W', st, _, _, _, _, ld, _, _, rfl, ow, nodup_opt p', xx⟩
  refine ⟨_, _, _, b0.loadAt 1 rfl (by kernel_rfl) rfl, ?_⟩
  refine Ret.at (impl_natDiv_c (ha.ext X) (k.ext X) (digs_canon _) (digs_canon _) (by omega) (by omega) (by omega)) ?_
  rintro v w3 ⟨p3, n3, c3, p4, n4, c4, hv, oq, or', _, y3⟩
  subst hv
  rw [val_div] at oq
  rw [val_mod] at or'
  have lq := oq.ints.1; have lr := or'.ints.1
  have D := Ext.drew w3
  have Y := y3.trans D
  have q50 : n3 <= 40 := by have := digs_mono_len (Nat.div_le_self x.natAbs d); omega
  have r50 : n4 <= 40 := by have := digs_mono_len (Nat.le_of_lt (Nat.mod_lt x.natAbs hd)); omega
  refine ⟨_, _, _, _, _, _, rfl, ifD (fun hrem => ?_) (fun hno => ifF (fin _ _ _ _ _ Y (oq.ext D) ?_))⟩
  · have hne : x.natAbs % d ≠ 0 := digs_pos_len.1 (by omega)
    obtain ⟨fl, hix, hcall⟩ := mode_call hm'.1 hm'.2 (decide (x < 0)) (cmpL (digs (x.natAbs % d + x.natAbs % d)) (digs d)) (decide (x.natAbs / d % 2 = 1))
    refine Ret.at (impl_roundModes_n _) ?_
    rintro v w4 ⟨hv, y4⟩
    subst hv
    refine ⟨_, _, _, _, _, _, _, _, _, _, _, _, _, _, rfl, y4, hix _ ⟨_, fun W hW => ((b0.ext Y).ext hW).loadAt 0 rfl (by kernel_rfl) rfl, ?_⟩⟩
    refine Ret.at (impl_natAdd_c ((or'.ext D).ext y4).ints ((or'.ext D).ext y4).ints (digs_limbs _) (digs_limbs _) (by omega) (by omega)) ?_
    rintro v w5 ⟨p5, n5, c5, hv, o5, y5⟩
    subst hv
    rw [val_add'] at o5
    refine ⟨_, _, _, rfl, y5, ?_⟩
    refine Ret.at (impl_natCmp_c o5.ints (k.ext ((X.trans Y).trans (y4.trans y5)))) ?_
    rintro v w6 ⟨hv, y6⟩
    subst hv
    refine ⟨_, rfl, y6, ?_⟩
    have Y6 := (D.trans (y4.trans y5)).trans y6
    refine Ret.at (impl_NatEven_n (oq.ext Y6).ints (by omega)) ?_
    rintro v w7 ⟨hv, y7⟩
    subst hv
    refine ⟨_, rfl, y7, ?_⟩
    rw [odd_even]
    have Y7 := Y6.trans y7
    refine hcall _ _ ⟨_, rfl, fun hyes => ?_, fun hno => fin _ _ _ _ _ (y3.trans Y7) (oq.ext Y7) ?_⟩
    · intro r8 w8 hn8
      refine Ret.at (impl_natAdd_c ((oq.ext Y7).ext hn8.ext).ints (digs_one_r hn8.blk) (digs_limbs _) (digs_limbs _) (by omega) (by omega)) ?_
      rintro v w9 ⟨p9, n9, c9, hv, o9, y9⟩
      subst hv
      rw [val_add'] at o9
      have l8 := ((y3.trans Y7).trans hn8.ext).le
      refine ⟨_, _, _, rfl, fin _ _ _ _ _ (((y3.trans Y7).trans hn8.ext).trans y9) (o9.mono l8) ?_⟩
      rw [roundM, if_pos ⟨hne, hyes⟩]
    · rw [roundM, if_neg (fun hh => by rw [hh.2] at hno; cases hno)]
  · have heq : x.natAbs % d = 0 := Decidable.byContradiction fun hh => by
      have := digs_pos_len.2 hh
      omega
    rw [roundM, if_neg (fun hh => hh.1 heq)]
theorem impl_RatRound_n {w : World} {xs : List Value} {N : Int} {D : Nat} {m : Int} (h : Reps w xs (rmk N D)) (hok : ratOk (rmk N D) = true) :
    Ret P n_impl_RatRound [.agg ⟨xs⟩, .int .i64 m] w fun v w' => ∃ vs f, v = .tuple #[.agg ⟨vs⟩, .bool (modeOk m)] /\ Owns w' w.heap.size vs (enc (if modeOk m then rround N D m else 0)) f /\ f.Nodup /\ Ext w w' := by
  have hr := h
  obtain ⟨p1, n1, c1, p2, n2, c2, rfl, i1, i2, li1, li2, he, hd⟩ := rmk_open h hok
  have ei1 := i1.1; have ei2 := i2.1
  refine impl_RatRound_ret ?_
  unfold impl_RatRound
  intro r w1 hn1 r1 w2 hn2
  have e1 := hn1.r_eq; have e2 := hn2.r_eq; have z1 := hn1.size; have z2 := hn2.size
  have X := hn1.ext.trans hn2.ext
  have b0 := hn1.blk.ext hn2.ext; have b1 := hn2.blk
  refine ⟨_, _, _, _, _, _, _, b0.loadA0 (by kernel_rfl), ?_⟩
  refine Ret.at (impl_RatOk_c (hr.ext X) (rmk_code _ _)) ?_
  rintro v w3 ⟨hv, y3⟩
  subst hv
  rw [hok]
  refine ⟨_, rfl, ifN (fun hh => absurd hh (by simp)) (fun _ => ?_)⟩
  refine Ret.at (impl_isMode_c m _) ?_
  rintro v w4 ⟨hv, hw⟩
  subst hv; subst hw
  have X3 := X.trans y3
  have l3 := y3.le
  have b0 := b0.ext y3; have b1 := b1.ext y3
  refine ⟨_, rfl, ifN (fun hno => ?_) (fun hyes => ?_)⟩
  · obtain ⟨W', st, ld, ow, xx, _, _⟩ := agg_end (t := T_impl_Signed) b1 X3 (by omega) (own_sgn0 w4 (r1 + 1)) (by kernel_rfl) rfl (by omega) (by omega)
    exact ⟨W', st, _, _, _, _, ld, _, [], by rw [hno], by rw [hno]; exact ow, List.nodup_nil, xx⟩
  · refine ⟨_, _, _, _, b0.loadAAt 0 [.bool (decide (N < 0)), .slice p1 n1 c1] rfl (by kernel_rfl) rfl, _, _, _, b0.loadAt 2 rfl (by kernel_rfl) rfl, ?_⟩
    refine Ret.at (impl_roundQuotient_n (he.ext X3) (i2.ext X3) hd (by omega) (by omega) hyes) ?_
    rintro v w5 ⟨vs5, f5, hv, ho5, nd5, y5⟩
    subst hv
    have hr5 := ho5.reps
    obtain ⟨s0, sp, sn, sc, sz, rfl, _, _⟩ := open_Signed hr5 (enc_code _)
    obtain ⟨W', st, ld, ow, xx, _, _⟩ := agg_end (t := T_impl_Signed) (b1.ext y5) (X3.trans y5) (by omega) ho5 (by kernel_rfl) rfl (by omega) (by omega)
    exact ⟨_, _, _, _, rfl, W', st, _, _, _, _, ld, _, f5, by rw [hyes], by rw [hyes]; exact ow, nd5, xx⟩
end Go.Proofs.YtbgokfhcgcoipaaDoor
namespace Go.Proofs.YtbgokfhcgcoipaaDoor
open Go Go.Proofs.YtbgokfhcgcoipaaDoor.Sx
theorem own_money0 (W : World) (B : Nat) : Owns W B [.string ByteArray.empty, .bool false, .slice none 0 0] zeroMoney [] :=
  Owns.append (Owns.str _ _ _) (Owns.append (Owns.bool _ _ false) (Owns.ints (zs := []) (Own.nil W B T_int 1)))
end Go.Proofs.YtbgokfhcgcoipaaDoor
namespace Go.Proofs.YtbgokfhcgcoipaaDoor
open Go Go.Proofs.YtbgokfhcgcoipaaDoor.Sx
theorem two_end {t1 t2 : TypeId} {w W : World} {r1 r2 : Nat} {e1 e2 : TypeId} {o1 o2 xs1 xs2 : List Value} {d1 d2 : List D0} {f1 f2 : List Nat} {B : Nat} (hb1 : Blk W r1 e1 o1) (hb2 : Blk W r2 e2 o2) (X : Ext w W)
    (ho1 : Owns W B xs1 d1 f1) (ho2 : Owns W B xs2 d2 f2) (ht1 : aggT P t1 xs1.length = true) (hl1 : xs1.length = o1.length) (ht2 : aggT P t2 xs2.length = true) (hl2 : xs2.length = o2.length) (hne : r1 ≠ r2) (hr1 : w.heap.size <= r1) (hr2 : w.heap.size <= r2) (hB1 : r1 < B) (hB2 : r2 < B) (hwB : w.heap.size <= B) :
    ∃ W1 W2, Stores P t1 ⟨r1, 0, none⟩ (.agg ⟨xs1⟩) W W1 /\ Chg [r1] W W1 /\ Stores P t2 ⟨r2, 0, none⟩ (.agg ⟨xs2⟩) W1 W2 /\ Loads P t1 ⟨r1, 0, none⟩ (.agg ⟨xs1⟩) W2 /\ Loads P t2 ⟨r2, 0, none⟩ (.agg ⟨xs2⟩) W2 /\ Owns W2 w.heap.size xs1 d1 f1 /\ Owns W2 w.heap.size xs2 d2 f2 /\ Ext w W2 := by
  obtain ⟨W1, st1, hb1', ch1, _⟩ := hb1.storeA0 (P := P) (t := t1) (xs := xs1) ht1 hl1 ho1.reps.cells1
  obtain ⟨W2, st2, hb2', ch2, _⟩ := (hb2.chg ch1 (by simp; omega)).storeA0 (P := P) (t := t2) (xs := xs2) ht2 hl2 ho2.reps.cells1
  exact ⟨W1, W2, st1, ch1, st2, (hb1'.chg ch2 (by simp; omega)).loadA0 ht1, hb2'.loadA0 ht2, ((ho1.chg1 ch1 hB1).chg1 ch2 hB2).mono hwB, ((ho2.chg1 ch1 hB1).chg1 ch2 hB2).mono hwB, (X.chg ch1 (by simp; exact hr1)).chg ch2 (by simp; exact hr2)⟩
theorem Owns.notin {w : World} {B : Nat} {r : Nat} {e : TypeId} {cs : List Value} (hb : Blk w r e cs) (he : e ≠ T_int) : ∀ {vs : List Value} {ds : List D0} {f : List Nat}, Owns w B vs ds f -> r ∉ f
  | [], [], f, h => by rw [show f = [] from h]; simp
  | [], _ :: _, _, h => h.elim
  | _ :: _, [], _, h => h.elim
  | v :: vs, d :: ds, _, h => by
    obtain ⟨f1, f2, rfl, h1, h2⟩ := h
    have ih := Owns.notin hb he h2
    intro hm
    rcases List.mem_append.1 hm with hm | hm
    · cases d <;> simp only [Own0] at h1
      case ints zs =>
        obtain ⟨p, n, c, _, ho, hf⟩ := h1
        rw [hf] at hm
        have hm := opt_mem hm
        rcases ho.2 with k1 | ⟨g, cap, cur, k1, k2, k3, k4⟩
        · simp only [Value.slice.injEq] at k1
          rw [k1.1.1] at hm
          simp at hm
        · simp only [Value.slice.injEq] at k1
          rw [k1.1] at hm
          simp at hm
          subst hm
          rw [show w.heap[g]? = _ from hb] at k3
          simp only [Option.some.injEq, Obj.cells.injEq] at k3
          exact he k3.2.1
      all_goals (rw [h1.2] at hm; simp at hm)
    · exact ih hm
def rr (N : Int) (D : Nat) (m : Int) : Int := if modeOk m then rround N D m else 0
def restR (N : Int) (D : Nat) (m : Int) : List D0 := redR (N * ((1 : Nat) : Int) + -(rround N D m) * (D : Int)) (D * 1)
def rs (N : Int) (D : Nat) (m : Int) : List D0 := if modeOk m then restR N D m else rat0
def rmOk (cur : ByteArray) (N : Int) (D : Nat) (m : Int) : Bool := modeOk m && moneyOk (.str cur :: enc (rround N D m))
def rmMoney (cur : ByteArray) (N : Int) (D : Nat) (m : Int) : List D0 := if rmOk cur N D m then .str cur :: enc (rround N D m) else zeroMoney
def rmRest (cur : ByteArray) (N : Int) (D : Nat) (m : Int) : List D0 := if rmOk cur N D m then restR N D m else rat0
theorem one_len1 : (digs 1).length <= 1 := by rw [digs_one]; decide
theorem redR_int {z : Int} (h : (digs z.natAbs).length <= 18) : redR z 1 = rmk z 1 := by
  have h1 : redN z 1 = z := by
    have h2 : Nat.gcd z.natAbs 1 = 1 := Nat.gcd_one_right _
    unfold redN
    rw [h2, Nat.div_one]
    split <;> omega
  have h2 : redD z 1 = 1 := by
    have h2 : Nat.gcd z.natAbs 1 = 1 := Nat.gcd_one_right _
    unfold redD
    rw [h2]
  rw [redR_small h (Nat.le_trans one_len1 (by decide)), h1, h2]
theorem rmk_int_ok {z : Int} (h : (digs z.natAbs).length <= 18) : ratOk (rmk z 1) = true := ratOk_rmk (by decide) (Nat.gcd_one_right _) h (Nat.le_trans one_len1 (by decide))
theorem rr_len {N : Int} {D : Nat} {m : Int} (hd : 0 < D) (h : (digs N.natAbs).length <= 10) : (digs (rr N D m).natAbs).length <= 11 := by
  unfold rr
  split
  · rw [rround_abs]; exact roundM_len hd h
  · rw [Int.natAbs_zero, digs_zero]; simp
theorem rest_len {N z : Int} {D : Nat} (hN : (digs N.natAbs).length <= 10) (hD : (digs D).length <= 6) (hz : (digs z.natAbs).length <= 11) : redOk (N * ((1 : Nat) : Int) + -z * (D : Int)) (D * 1) = true := by
  have h1 : (digs (-z * (D : Int)).natAbs).length <= 17 := by
    rw [Int.natAbs_mul, Int.natAbs_natCast, Int.natAbs_neg]
    exact prod_len hz hD
  have h2 : (digs (N * ((1 : Nat) : Int)).natAbs).length <= 17 := by
    rw [Int.natCast_one, Int.mul_one]; omega
  exact redOk_small (sum_len h2 h1) (by rw [Nat.mul_one]; omega)
theorem impl_moneyOf_s {w : World} (ht : Tab w) {B : Nat} {xs : List Value} {z : Int} {f : List Nat} (cur : ByteArray) (h : Owns w B xs (enc z) f) (hnd : f.Nodup) (hB : B <= w.heap.size) :
    Ret P n_impl_moneyOf [.string cur, .agg ⟨xs⟩] w fun v w' => ∃ vs f', v = .tuple #[.agg ⟨vs⟩, .bool (moneyOk (.str cur :: enc z))] /\ Owns w' B vs (moneyMk cur z) f' /\ f'.Nodup /\ (∀ k ∈ f', k ∈ f) /\ Ext w w' := by
  have ho := h
  obtain ⟨a0, a1p, a1n, a1c, a1z, rfl, hd, ha⟩ := open_Signed h.reps (enc_code _)
  refine impl_moneyOf_ret ?_
  unfold impl_moneyOf
  intro r w1 hn1 r1 w2 hn2
  refine ⟨_, _, _, _, (hn1.blk.ext hn2.ext).loadA0 (by kernel_rfl), ?_⟩
  intro r2 w3 hn3
  have e1 := hn1.r_eq; have e2 := hn2.r_eq; have e3 := hn3.r_eq; have s1 := hn1.size; have s2 := hn2.size; have s3 := hn3.size
  obtain ⟨w4, st4, hb4, y4⟩ := hn3.fill (P := P) (t := T_impl_Money) (xs := [.string cur, .bool a0, .slice a1p a1n a1c]) (by simp [Value.oneCell']) (by kernel_rfl) rfl
  have X := (hn1.ext.trans hn2.ext).trans y4
  have k1 := hn2.blk.ext y4
  refine ⟨w4, st4, _, _, _, _, _, hb4.loadA0 (by kernel_rfl), ?_⟩
  have hm : Reps w4 [.string cur, .bool a0, .slice a1p a1n a1c] (.str cur :: enc z) := ⟨rfl, h.reps.ext X⟩
  refine Ret.at (impl_MoneyOk_c (ht.ext X) hm rfl) ?_
  rintro v w5 ⟨hv, y5⟩
  subst hv
  have X5 := X.trans y5
  refine ⟨_, rfl, fun hyes => ?_, fun hno => ?_⟩
  · obtain ⟨w6, st6, hb6, ch, sz⟩ := (k1.ext y5).storeA0 (P := P) (t := T_impl_Money) (xs := [.string cur, .bool a0, .slice a1p a1n a1c]) (by kernel_rfl) rfl (by simp [Value.oneCell'])
    refine ⟨_, _, _, _, _, (hb4.ext y5).loadA0 (by kernel_rfl), w6, st6, _, _, _, _, _, hb6.loadA0 (by kernel_rfl), [.string cur, .bool a0, .slice a1p a1n a1c], f, by rw [hyes], ?_, hnd, fun _ hh => hh, X5.chg ch (by simp; omega)⟩
    unfold moneyMk
    rw [hyes]
    have h5 := ((ho.ext X5).chg ch fun k hk hm => by
      have := (ho.lt k hk).2
      simp at hm; omega)
    exact Owns.append (Owns.str _ _ cur) h5
  · obtain ⟨w6, st6, hb6, ch, sz⟩ := (k1.ext y5).storeA0 (P := P) (t := T_impl_Money) (xs := [.string ByteArray.empty, .bool false, .slice none 0 0]) (by kernel_rfl) rfl (by simp [Value.oneCell'])
    refine ⟨w6, st6, _, _, _, _, _, hb6.loadA0 (by kernel_rfl), [.string ByteArray.empty, .bool false, .slice none 0 0], [], by rw [hno], ?_, List.nodup_nil, fun _ hh => by simp at hh, X5.chg ch (by simp; omega)⟩
    unfold moneyMk
    rw [hno]
    exact Owns.append (Owns.str _ _ _) (Owns.append (Owns.bool _ _ false) (Owns.ints (zs := []) (Own.nil w6 B T_int 1)))
theorem impl_RatRest_n {w : World} {xs : List Value} {N : Int} {D : Nat} {m : Int} (h : Reps w xs (rmk N D)) (hok : ratOk (rmk N D) = true) (hN : (digs N.natAbs).length <= 10) (hD : (digs D).length <= 6) :
    Ret P n_impl_RatRest [.agg ⟨xs⟩, .int .i64 m] w fun v w' => ∃ vs1 f1 vs2 f2, v = .tuple #[.agg ⟨vs1⟩, .agg ⟨vs2⟩, .bool (modeOk m)] /\ Owns w' w.heap.size vs1 (enc (rr N D m)) f1 /\ f1.Nodup /\ Owns w' w.heap.size vs2 (rs N D m) f2 /\ f2.Nodup /\ (∀ k ∈ f1, k ∉ f2) /\ Ext w w' := by
  have hr := h
  obtain ⟨p1, n1, c1, p2, n2, c2, rfl, i1, i2, li1, li2, he, hd⟩ := rmk_open h hok
  refine impl_RatRest_ret ?_
  unfold impl_RatRest
  intro r w1 hn1 r1 w2 hn2 r2 w3 hn3
  have e1 := hn1.r_eq; have e2 := hn2.r_eq; have e3 := hn3.r_eq; have z1 := hn1.size; have z2 := hn2.size; have z3 := hn3.size
  have X := (hn1.ext.trans hn2.ext).trans hn3.ext
  have b0 := (hn1.blk.ext hn2.ext).ext hn3.ext; have b1 := hn2.blk.ext hn3.ext; have b2 := hn3.blk
  have zlen := rr_len (m := m) hd hN
  have zok := rmk_int_ok (show (digs (rr N D m).natAbs).length <= 18 by omega)
  have zred := redR_int (show (digs (rr N D m).natAbs).length <= 18 by omega)
  have zrok := redOk_small (n := rr N D m) (d := 1) (by omega) (Nat.le_trans one_len1 (by decide))
  have dok := rest_len (z := rr N D m) hN hD zlen
  refine ⟨_, _, _, _, _, _, _, b0.loadA0 (by kernel_rfl), ?_⟩
  refine Ret.at (impl_RatRound_n (m := m) (hr.ext X) hok) ?_
  rintro v w4 ⟨vs4, f4, hv, ho4, nd4, y4⟩
  subst hv
  have ho4 : Owns w4 w3.heap.size vs4 (enc (rr N D m)) f4 := ho4
  have hr4 := ho4.reps
  obtain ⟨s0, sp, sn, sc, sz, rfl, _, _⟩ := open_Signed hr4 (enc_code _)
  refine ⟨_, _, _, _, _, rfl, ?_⟩
  intro r3 w5 hn5
  have e5 := hn5.r_eq; have z5 := hn5.size; have l4 := y4.le
  obtain ⟨w6, st6, hb6, y6⟩ := hn5.fill (P := P) (t := T_impl_Signed) (xs := [.bool s0, .slice sp sn sc]) (by simp [Value.oneCell']) (by kernel_rfl) rfl
  have Y6 := y4.trans y6
  have l6 := y6.le
  have zero : ∀ W, Ext w6 W -> modeOk m = false -> ∃ W1, Stores P T_impl_Signed ⟨r1, 0, none⟩ (.agg ⟨[.bool false, .slice none 0 0]⟩) W W1 /\ ∃ W2, Stores P T_impl_Rat ⟨r2, 0, none⟩ (.agg ⟨[.bool false, .slice none 0 0, .slice none 0 0]⟩) W1 W2 /\ Loads P T_impl_Signed ⟨r1, 0, none⟩ (.agg ⟨[.bool false, .slice none 0 0]⟩) W2 /\ Loads P T_impl_Rat ⟨r2, 0, none⟩ (.agg ⟨[.bool false, .slice none 0 0, .slice none 0 0]⟩) W2 /\ Owns W2 w.heap.size [.bool false, .slice none 0 0] (enc (rr N D m)) [] /\ Owns W2 w.heap.size [.bool false, .slice none 0 0, .slice none 0 0] (rs N D m) [] /\ Ext w W2 := by
    intro W hW hno
    have q1 := (b1.ext Y6).ext hW; have q2 := (b2.ext Y6).ext hW
    obtain ⟨W1, W2, a1, _, a2, a3, a4, a5, a6, a7⟩ := two_end (t1 := T_impl_Signed) (t2 := T_impl_Rat) q1 q2 ((X.trans Y6).trans hW) (own_sgn0 W (r2 + 1)) (own_rat0 W (r2 + 1)) (by kernel_rfl) rfl (by kernel_rfl) rfl (by omega) (by omega) (by omega) (by omega) (by omega) (by omega)
    have z1' : rr N D m = 0 := by rw [rr, hno]; rfl
    have z2' : rs N D m = rat0 := by rw [rs, hno]; rfl
    rw [z1', z2']
    exact ⟨W1, a1, W2, a2, a3, a4, a5, a6, a7⟩
  refine ⟨w6, st6, ifN (fun hno => ?_) (fun hyes => ?_)⟩
  · obtain ⟨W1, a1, W2, a2, a3, a4, a5, a6, a7⟩ := zero _ (Ext.refl _) hno
    exact ⟨W1, a1, W2, a2, _, _, _, _, a3, _, _, _, _, _, _, _, a4, _, [], _, [], by rw [hno], a5, List.nodup_nil, a6, List.nodup_nil, fun k hk => by simp at hk, a7⟩
  ·
    have hr6 : Reps w6 [.bool s0, .slice sp sn sc] (enc (rr N D m)) := hr4.ext y6
    refine ⟨_, _, _, _, hb6.loadA0 (by kernel_rfl), ?_⟩
    refine Ret.at (impl_RatInt_n hr6 (by omega)) ?_
    rintro v w7 ⟨vs7, f7, hv, ho7, _, y7⟩
    subst hv
    rw [zred] at ho7
    rw [zrok]
    have hr7 := ho7.reps
    obtain ⟨u0, up, un, uc, uz, up2, un2, uc2, uz2, rfl, _, _, _⟩ := open_Rat hr7 (rmk_code _ _)
    refine ⟨_, _, _, _, _, _, _, _, rfl, ?_⟩
    intro r4 w8 hn8
    have e8 := hn8.r_eq; have z8 := hn8.size; have l7 := y7.le
    obtain ⟨w9, st9, hb9, y9⟩ := hn8.fill (P := P) (t := T_impl_Rat) (xs := [.bool u0, .slice up un uc, .slice up2 un2 uc2]) (by simp [Value.oneCell']) (by kernel_rfl) rfl
    have l9 := y9.le
    have Y9 := (Y6.trans y7).trans y9
    refine ⟨w9, st9, _, _, _, _, _, _, _, (b0.ext Y9).loadA0 (by kernel_rfl), _, _, _, _, _, _, _, hb9.loadA0 (by kernel_rfl), ?_⟩
    refine Ret.at (impl_RatSub_n (hr.ext (X.trans Y9)) (hr7.ext y9) hok zok) ?_
    rintro v w10 ⟨vs10, f10, hv, ho10, nd10, y10⟩
    subst hv
    rw [dok]
    have hr10 := ho10.reps
    obtain ⟨g0, gp, gn, gc, gz, gp2, gn2, gc2, gz2, rfl, _, _, _⟩ := open_Rat hr10 (redR_code _ _)
    refine ⟨_, _, _, _, _, _, _, _, rfl, ?_⟩
    intro r5 w11 hn11
    have e11 := hn11.r_eq; have z11 := hn11.size; have l10 := y10.le
    obtain ⟨w12, st12, hb12, y12⟩ := hn11.fill (P := P) (t := T_impl_Rat) (xs := [.bool g0, .slice gp gn gc, .slice gp2 gn2 gc2]) (by simp [Value.oneCell']) (by kernel_rfl) rfl
    have D' := Ext.drew w12
    have Y12 := ((Y9.trans y10).trans y12).trans D'
    have T12 := (((y7.trans y9).trans y10).trans y12).trans D'
    have q1 := b1.ext Y12; have q2 := b2.ext Y12
    have k3 := hb6.ext T12; have k5 := hb12.ext D'
    have o1 := (ho4.ext y6).ext T12
    have o2 := ((ho10.ext y12).ext D').mono (show w3.heap.size <= w9.heap.size by omega)
    have dis : ∀ k ∈ f4, k ∉ f10 := fun k hk hm => by
      have a := (ho4.lt k hk).2
      have b := (ho10.lt k hm).1
      omega
    refine ⟨w12, st12, ?_⟩
    refine ifN (fun hh => absurd hh (by simp)) (fun _ => ifN (fun hh => absurd hh (by simp)) (fun _ => ?_))
    obtain ⟨W1, W2, a1, ch1, a2, a3, a4, a5, a6, a7⟩ := two_end (t1 := T_impl_Signed) (t2 := T_impl_Rat) q1 q2 (X.trans Y12) o1 o2 (by kernel_rfl) rfl (by kernel_rfl) rfl (by omega) (by omega) (by omega) (by omega) (by omega) (by omega)
    have z1' : rr N D m = rround N D m := by rw [rr, hyes]; rfl
    have z2' : rs N D m = restR N D m := by rw [rs, hyes]; rfl
    refine ⟨[r1], _, _, _, _, fun W hW => (k3.chg (show Chg [r1] w12.drew W from hW) (by simp; omega)).loadA0 (by kernel_rfl), _, _, _, _, _, _, _, fun W hW => (k5.chg (show Chg [r1] w12.drew W from hW) (by simp; omega)).loadA0 (by kernel_rfl), W1, a1, show Chg [r1] w12.drew W1 from ch1, W2, a2, _, _, _, _, a3, _, _, _, _, _, _, _, a4, _, f4, _, f10, by rw [hyes], a5, nd4, ?_, nd10, dis, a7⟩
    rw [z2', restR, <- z1']
    exact a6
end Go.Proofs.YtbgokfhcgcoipaaDoor
namespace Go.Proofs.YtbgokfhcgcoipaaDoor
open Go Go.Proofs.YtbgokfhcgcoipaaDoor.Sx
def alk : List D0 -> List D0 -> Bool
  | [.str c, .bool b, .ints z], [.str c2, .bool b2, .ints z2] => moneyOk [.str c, .bool b, .ints z] && (moneyOk [.str c2, .bool b2, .ints z2] && decide (c = c2))
  | _, _ => false
def mres (al : Bool) (c : ByteArray) (z : Int) : Bool × List D0 := if al then (moneyOk (.str c :: enc z), moneyMk c z) else (false, zeroMoney)
theorem alk_parts {c c2 : ByteArray} {b b2 : Bool} {z z2 : List Int} (h : alk [.str c, .bool b, .ints z] [.str c2, .bool b2, .ints z2] = true) : moneyOk [.str c, .bool b, .ints z] = true /\ moneyOk [.str c2, .bool b2, .ints z2] = true /\ c = c2 := by
  simpa [alk] using h
theorem impl_intAdd_n {w : World} {xs ys : List Value} {x y : Int} (h : Reps w xs (enc x)) (k : Reps w ys (enc y)) (hx : x.natAbs <= 1000000000000000000000000000000000000) (hy : y.natAbs <= 1000000000000000000000000000000000000) :
    Ret P n_impl_intAdd [.agg ⟨xs⟩, .agg ⟨ys⟩] w fun v w' => ∃ vs f, v = .agg ⟨vs⟩ /\ Owns w' w.heap.size vs (enc (x + y)) f /\ f.Nodup /\ Ext w w' := by
  have d1 : (digs x.natAbs).length <= 6 := digs_len_le (by omega)
  have d2 : (digs y.natAbs).length <= 6 := digs_len_le (by omega)
  exact (impl_intAdd_c h k (by omega) (by omega)).mono fun v w' ⟨p, n, c, hv, ho, hx⟩ => ⟨_, _, hv, Owns.int2 ho, nodup_opt p, hx⟩
theorem impl_alike_c {w : World} {xs ys : List Value} {c c2 : ByteArray} {b b2 : Bool} {z z2 : List Int} (h : Reps w xs [.str c, .bool b, .ints z]) (g : Reps w ys [.str c2, .bool b2, .ints z2]) (ht : Tab w) :
    Ret P n_impl_alike [.agg ⟨xs⟩, .agg ⟨ys⟩] w fun v w' => v = .bool (alk [.str c, .bool b, .ints z] [.str c2, .bool b2, .ints z2]) /\ Ext w w' := by
  have hr := h; have gr := g
  obtain ⟨cur, a0, ap, an, ac, az, rfl, hd, ha⟩ := open_Money h rfl
  cases hd
  obtain ⟨cur2, d0, bp, bn, bc, bz, rfl, hd, hb⟩ := open_Money g rfl
  cases hd
  refine impl_alike_ret ?_
  unfold impl_alike
  intro r w1 hn1 r1 w2 hn2
  have X := hn1.ext.trans hn2.ext
  have q0 := hn1.blk.ext hn2.ext; have q1 := hn2.blk
  refine ⟨_, _, _, _, _, q0.loadA0 (by kernel_rfl), ?_⟩
  refine Ret.at (impl_MoneyOk_c (ht.ext X) (hr.ext X) rfl) ?_
  rintro v w3 ⟨hv, y3⟩
  subst hv
  refine ⟨_, rfl, fun e => ⟨_, _, _, _, _, (q1.ext y3).loadA0 (by kernel_rfl), ?_⟩, fun e => ⟨fun hh => absurd hh (by simp), fun _ => ⟨by simp only [alk, e, Bool.false_and], X.trans y3⟩⟩⟩
  have X3 := X.trans y3
  refine Ret.at (impl_MoneyOk_c (ht.ext X3) (gr.ext X3) rfl) ?_
  rintro v w4 ⟨hv, y4⟩
  subst hv
  have Y := y3.trans y4
  exact ⟨_, rfl, fun e2 => ⟨_, (q0.ext Y).loadAt 0 rfl (by kernel_rfl) rfl, _, (q1.ext Y).loadAt 0 rfl (by kernel_rfl) rfl, by simp only [alk, e, e2, Bool.true_and], X.trans Y⟩, fun e2 => ⟨by simp only [alk, e, e2, Bool.false_and, Bool.and_false], X.trans Y⟩⟩
theorem impl_MoneyAdd_n {w : World} {xs ys : List Value} {c c2 : ByteArray} {b b2 : Bool} {z z2 : List Int} (h : Reps w xs [.str c, .bool b, .ints z]) (g : Reps w ys [.str c2, .bool b2, .ints z2]) (ht : Tab w) :
    Ret P n_impl_MoneyAdd [.agg ⟨xs⟩, .agg ⟨ys⟩] w fun v w' => ∃ vs f, v = .tuple #[.agg ⟨vs⟩, .bool (mres (alk [.str c, .bool b, .ints z] [.str c2, .bool b2, .ints z2]) c (ival [.bool b, .ints z] + ival [.bool b2, .ints z2])).1] /\ Owns w' w.heap.size vs (mres (alk [.str c, .bool b, .ints z] [.str c2, .bool b2, .ints z2]) c (ival [.bool b, .ints z] + ival [.bool b2, .ints z2])).2 f /\ f.Nodup /\ Ext w w' := by
  have hr := h; have gr := g
  obtain ⟨cur, a0, ap, an, ac, az, rfl, hd, ha⟩ := open_Money h rfl
  cases hd
  obtain ⟨cur2, d0, bp, bn, bc, bz, rfl, hd, hb⟩ := open_Money g rfl
  cases hd
  refine impl_MoneyAdd_ret ?_
  unfold impl_MoneyAdd
  intro r w1 hn1 r1 w2 hn2 r2 w3 hn3
  have e1 := hn1.r_eq; have e2 := hn2.r_eq; have e3 := hn3.r_eq; have s1 := hn1.size; have s2 := hn2.size; have s3 := hn3.size
  have X := (hn1.ext.trans hn2.ext).trans hn3.ext
  have q0 := (hn1.blk.ext hn2.ext).ext hn3.ext; have q1 := hn2.blk.ext hn3.ext; have q2 := hn3.blk
  refine ⟨_, _, _, _, _, q0.loadA0 (by kernel_rfl), _, _, _, _, _, q1.loadA0 (by kernel_rfl), ?_⟩
  refine Ret.at (impl_alike_c (hr.ext X) (gr.ext X) (ht.ext X)) ?_
  rintro v w4 ⟨hv, y4⟩
  subst hv
  have l4 := y4.le
  generalize hal : alk [.str c, .bool b, .ints z] [.str c2, .bool b2, .ints z2] = al
  refine ⟨_, rfl, ifN (fun hno => ?_) (fun hyes => ?_)⟩
  · subst hno
    obtain ⟨W', st', ld', ow', xx', _, _⟩ := agg_end (t := T_impl_Money) (q2.ext y4) (X.trans y4) (by omega) (own_money0 w4 (r2 + 1)) (by kernel_rfl) rfl (by omega) (by omega)
    exact ⟨W', st', _, _, _, _, _, ld', _, [], rfl, ow', List.nodup_nil, xx'⟩
  subst hyes
  obtain ⟨m1, m2, rfl⟩ := alk_parts hal
  have E1 := (intOk_enc (moneyOk_int m1)).1; have E2 := (intOk_enc (moneyOk_int m2)).1
  have B1 := money_bound m1; have B2 := money_bound m2
  have Y := y4.trans (Ext.drew w4)
  have X4 := X.trans Y
  have lY := Y.le
  have k0 := q0.ext Y; have k1 := q1.ext Y; have k2 := q2.ext Y
  have hx : Reps w4.drew [.bool b, .slice ap an ac] (enc (ival [.bool b, .ints z])) := by
    rw [<- E1]; exact ⟨rfl, ⟨_, _, _, rfl, ha.ext X4⟩, trivial⟩
  have hy : Reps w4.drew [.bool b2, .slice bp bn bc] (enc (ival [.bool b2, .ints z2])) := by
    rw [<- E2]; exact ⟨rfl, ⟨_, _, _, rfl, hb.ext X4⟩, trivial⟩
  generalize ival [.bool b, .ints z] = U at B1 hx
  generalize ival [.bool b2, .ints z2] = V at B2 hy
  refine ⟨_, fun W hW => (k0.ext hW).loadAt 0 rfl (by kernel_rfl) rfl, _, _, _, _, fun W hW => (k0.ext hW).loadAAt 1 [.bool b, .slice ap an ac] rfl (by kernel_rfl) rfl, _, _, _, _, fun W hW => (k1.ext hW).loadAAt 1 [.bool b2, .slice bp bn bc] rfl (by kernel_rfl) rfl, ?_⟩
  refine Ret.at (impl_intAdd_n hx hy B1 B2) ?_
  rintro v w6 ⟨vs6, f6, hv, ho6, nd6, y6⟩
  subst hv
  have Z6 := y6
  obtain ⟨g0, gp, gn, gc, gz, rfl, _, _⟩ := open_Signed ho6.reps (enc_code _)
  have l6 := y6.le
  refine ⟨_, _, _, _, rfl, y6, ?_⟩
  refine Ret.at (impl_moneyOf_s (ht.ext (X4.trans y6)) c ho6 nd6 (by omega)) ?_
  rintro v w7 ⟨vs7, f7, hv, ho7, nd7, _, y7⟩
  subst hv
  obtain ⟨u0, u1, up, un, uc, uz, rfl, _, _⟩ := open_Money ho7.reps (moneyMk_code _ _)
  obtain ⟨W', st', ld', ow', xx', _, _⟩ := agg_end (t := T_impl_Money) ((k2.ext Z6).ext y7) ((X4.trans Z6).trans y7) (by omega) ho7 (by kernel_rfl) rfl (by omega) (by omega)
  exact ⟨_, _, _, _, _, _, rfl, W', st', _, _, _, _, _, ld', _, f7, rfl, ow', nd7, xx'⟩
theorem impl_MoneySub_n {w : World} {xs ys : List Value} {c c2 : ByteArray} {b b2 : Bool} {z z2 : List Int} (h : Reps w xs [.str c, .bool b, .ints z]) (g : Reps w ys [.str c2, .bool b2, .ints z2]) (ht : Tab w) :
    Ret P n_impl_MoneySub [.agg ⟨xs⟩, .agg ⟨ys⟩] w fun v w' => ∃ vs f, v = .tuple #[.agg ⟨vs⟩, .bool (mres (alk [.str c, .bool b, .ints z] [.str c2, .bool b2, .ints z2]) c (ival [.bool b, .ints z] - ival [.bool b2, .ints z2])).1] /\ Owns w' w.heap.size vs (mres (alk [.str c, .bool b, .ints z] [.str c2, .bool b2, .ints z2]) c (ival [.bool b, .ints z] - ival [.bool b2, .ints z2])).2 f /\ f.Nodup /\ Ext w w' := by
  have hr := h; have gr := g
  obtain ⟨cur, a0, ap, an, ac, az, rfl, hd, ha⟩ := open_Money h rfl
  cases hd
  obtain ⟨cur2, d0, bp, bn, bc, bz, rfl, hd, hb⟩ := open_Money g rfl
  cases hd
  refine impl_MoneySub_ret ?_
  unfold impl_MoneySub
  intro r w1 hn1 r1 w2 hn2 r2 w3 hn3
  have e1 := hn1.r_eq; have e2 := hn2.r_eq; have e3 := hn3.r_eq; have s1 := hn1.size; have s2 := hn2.size; have s3 := hn3.size
  have X := (hn1.ext.trans hn2.ext).trans hn3.ext
  have q0 := (hn1.blk.ext hn2.ext).ext hn3.ext; have q1 := hn2.blk.ext hn3.ext; have q2 := hn3.blk
  refine ⟨_, _, _, _, _, q0.loadA0 (by kernel_rfl), _, _, _, _, _, q1.loadA0 (by kernel_rfl), ?_⟩
  refine Ret.at (impl_alike_c (hr.ext X) (gr.ext X) (ht.ext X)) ?_
  rintro v w4 ⟨hv, y4⟩
  subst hv
  have l4 := y4.le
  generalize hal : alk [.str c, .bool b, .ints z] [.str c2, .bool b2, .ints z2] = al
  refine ⟨_, rfl, ifN (fun hno => ?_) (fun hyes => ?_)⟩
  · subst hno
    obtain ⟨W', st', ld', ow', xx', _, _⟩ := agg_end (t := T_impl_Money) (q2.ext y4) (X.trans y4) (by omega) (own_money0 w4 (r2 + 1)) (by kernel_rfl) rfl (by omega) (by omega)
    exact ⟨W', st', _, _, _, _, _, ld', _, [], rfl, ow', List.nodup_nil, xx'⟩
  subst hyes
  obtain ⟨m1, m2, rfl⟩ := alk_parts hal
  have E1 := (intOk_enc (moneyOk_int m1)).1; have E2 := (intOk_enc (moneyOk_int m2)).1
  have B1 := money_bound m1; have B2 := money_bound m2
  have Y := y4.trans (Ext.drew w4)
  have X4 := X.trans Y
  have lY := Y.le
  have k0 := q0.ext Y; have k1 := q1.ext Y; have k2 := q2.ext Y
  have hx : Reps w4.drew [.bool b, .slice ap an ac] (enc (ival [.bool b, .ints z])) := by
    rw [<- E1]; exact ⟨rfl, ⟨_, _, _, rfl, ha.ext X4⟩, trivial⟩
  have hy : Reps w4.drew [.bool b2, .slice bp bn bc] (enc (ival [.bool b2, .ints z2])) := by
    rw [<- E2]; exact ⟨rfl, ⟨_, _, _, rfl, hb.ext X4⟩, trivial⟩
  generalize ival [.bool b, .ints z] = U at B1 hx
  generalize ival [.bool b2, .ints z2] = V at B2 hy
  refine ⟨_, fun W hW => (k0.ext hW).loadAt 0 rfl (by kernel_rfl) rfl, _, _, _, _, fun W hW => (k0.ext hW).loadAAt 1 [.bool b, .slice ap an ac] rfl (by kernel_rfl) rfl, _, _, _, _, fun W hW => (k1.ext hW).loadAAt 1 [.bool b2, .slice bp bn bc] rfl (by kernel_rfl) rfl, ?_⟩
  have d2 : (digs V.natAbs).length <= 6 := digs_len_le (by omega)
  refine Ret.at (impl_intNeg_c hy (by omega)) ?_
  rintro v w5 ⟨vs5, f5, hv, ho5, _, y5⟩
  subst hv
  obtain ⟨n0, np, nn, nc, nz, rfl, _, _⟩ := open_Signed ho5.reps (enc_code _)
  have l5 := y5.le
  refine ⟨_, _, _, _, rfl, y5, ?_⟩
  refine Ret.at (impl_intAdd_n (hx.ext y5) ho5.reps B1 (by omega)) ?_
  rintro v w6 ⟨vs6, f6, hv, ho6, nd6, y6⟩
  subst hv
  have Z6 := y5.trans y6
  rw [<- Int.sub_eq_add_neg] at ho6
  obtain ⟨g0, gp, gn, gc, gz, rfl, _, _⟩ := open_Signed ho6.reps (enc_code _)
  have l6 := y6.le
  refine ⟨_, _, _, _, rfl, y6, ?_⟩
  refine Ret.at (impl_moneyOf_s (ht.ext (X4.trans Z6)) c ho6 nd6 (by omega)) ?_
  rintro v w7 ⟨vs7, f7, hv, ho7, nd7, _, y7⟩
  subst hv
  obtain ⟨u0, u1, up, un, uc, uz, rfl, _, _⟩ := open_Money ho7.reps (moneyMk_code _ _)
  obtain ⟨W', st', ld', ow', xx', _, _⟩ := agg_end (t := T_impl_Money) ((k2.ext Z6).ext y7) ((X4.trans Z6).trans y7) (by omega) ho7 (by kernel_rfl) rfl (by omega) (by omega)
  exact ⟨_, _, _, _, _, _, rfl, W', st', _, _, _, _, _, ld', _, f7, rfl, ow', nd7, xx'⟩
end Go.Proofs.YtbgokfhcgcoipaaDoor
namespace Go.Proofs.YtbgokfhcgcoipaaDoor
open Go Go.Proofs.YtbgokfhcgcoipaaDoor.Sx
def taxOk : List D0 -> Bool
  | [.bool b, .ints z, .int s] => decOk [.bool b, .ints z, .int s] && decide (z.length <= 1) && !b && decide (dcmp [.bool b, .ints z, .int s] (enc 1 ++ [.int 0]) <= 0)
  | _ => false
theorem impl_TaxRateOk_c {w : World} {xs : List Value} {dx : List D0} (h : Reps w xs dx) (hc : dx.map D0.code = [.bool, .ints, .int]) :
    Ret P n_impl_TaxRateOk [.agg ⟨xs⟩] w fun v w' => v = .bool (taxOk dx) /\ Ext w w' := by
  have hr := h
  obtain ⟨a0, a1p, a1n, a1c, a1z, a2, rfl, rfl, ha⟩ := open_Dec h hc
  refine impl_TaxRateOk_ret ?_
  unfold impl_TaxRateOk
  intro r w1 hn1
  have D := Ext.drew w1
  have X := hn1.ext.trans D
  have hl := ha.1
  refine ⟨_, _, _, _, _, fun W hW => (hn1.blk.ext (D.trans hW)).loadA0 (by kernel_rfl), ?_⟩
  refine Ret.at (impl_DecOk_c (hr.ext X) rfl) ?_
  rintro v w2 ⟨hv, y2⟩
  subst hv
  have X2 := X.trans y2
  have b := (hn1.blk.ext D).ext y2
  refine ⟨_, rfl, fun e1 => ⟨_, _, _, fun W hW => (b.ext hW).loadAt 1 rfl (by kernel_rfl) rfl, ifD (fun hle => ⟨_, fun W hW => (b.ext hW).loadAt 0 rfl (by kernel_rfl) rfl, fun e2 => ?_, fun e2 => ⟨?_, X2⟩⟩) (fun hgt => ifF ⟨?_, X2⟩)⟩, fun e1 => ifF (ifF ⟨?_, X2⟩)⟩
  · refine ⟨_, _, _, _, _, fun W hW => (b.ext hW).loadA0 (by kernel_rfl), ?_⟩
    refine Ret.at (impl_IntOf_c (n := 1) (by omega) (by omega)) ?_
    rintro v w3 ⟨vs, f, hv, ho, _, y3⟩
    subst hv
    obtain ⟨g0, gp, gn, gc, gz, rfl, hg, hgi⟩ := open_Signed ho.reps (enc_code _)
    refine ⟨_, _, _, _, rfl, y3, ?_⟩
    have hone : Reps w3 [.bool g0, .slice gp gn gc, .int .i64 0] (enc 1 ++ [.int 0]) := by
      rw [hg]; exact ⟨rfl, ⟨_, _, _, rfl, hgi⟩, rfl, trivial⟩
    refine Ret.at (impl_DecCmp_c (hr.ext (X2.trans y3)) hone rfl rfl) ?_
    rintro v w4 ⟨hv, y4⟩
    subst hv
    refine ⟨_, rfl, ?_, (X2.trans y3).trans y4⟩
    have e2 : a0 = false := by simpa using e2
    subst e2
    simp only [taxOk, e1, show decide (a1z.length <= 1) = true by simp; omega, Bool.and_self, Bool.not_false, Bool.true_and]
  · have e2 : a0 = true := by simpa using e2
    simp only [taxOk, e2, Bool.not_true, Bool.and_false, Bool.false_and]
  · simp only [taxOk, show decide (a1z.length <= 1) = false by simp; omega, Bool.and_false, Bool.false_and]
  · simp only [taxOk, e1, Bool.false_and]
end Go.Proofs.YtbgokfhcgcoipaaDoor
namespace Go.Proofs.YtbgokfhcgcoipaaDoor
open Go Go.Proofs.YtbgokfhcgcoipaaDoor.Sx
theorem impl_RatMoney_n {w : World} {xs : List Value} {N : Int} {D : Nat} {m : Int} (cur : ByteArray) (h : Reps w xs (rmk N D)) (hok : ratOk (rmk N D) = true) (hN : (digs N.natAbs).length <= 10) (hD : (digs D).length <= 6) (ht : Tab w) :
    Ret P n_impl_RatMoney [.string cur, .agg ⟨xs⟩, .int .i64 m] w fun v w' => ∃ vs1 f1 vs2 f2, v = .tuple #[.agg ⟨vs1⟩, .agg ⟨vs2⟩, .bool (rmOk cur N D m)] /\ Owns w' w.heap.size vs1 (rmMoney cur N D m) f1 /\ f1.Nodup /\ Owns w' w.heap.size vs2 (rmRest cur N D m) f2 /\ f2.Nodup /\ (∀ k ∈ f1, k ∉ f2) /\ Ext w w' := by
  have hr := h
  obtain ⟨p1, n1, c1, p2, n2, c2, rfl, i1, i2, li1, li2, he, hd⟩ := rmk_open h hok
  refine impl_RatMoney_ret ?_
  unfold impl_RatMoney
  intro r w1 hn1 r1 w2 hn2 r2 w3 hn3
  have e1 := hn1.r_eq; have e2 := hn2.r_eq; have e3 := hn3.r_eq; have z1 := hn1.size; have z2 := hn2.size; have z3 := hn3.size
  have X := (hn1.ext.trans hn2.ext).trans hn3.ext
  have b0 := (hn1.blk.ext hn2.ext).ext hn3.ext; have b1 := hn2.blk.ext hn3.ext; have b2 := hn3.blk
  refine ⟨_, _, _, _, _, _, _, b0.loadA0 (by kernel_rfl), ?_⟩
  refine Ret.at (impl_RatRest_n (m := m) (hr.ext X) hok hN hD) ?_
  rintro v w4 ⟨vs4, f4, vsr, fr, hv, ho4, nd4, hor, ndr, dis, y4⟩
  subst hv
  have l4 := y4.le
  have hr4 := ho4.reps; have hrr := hor.reps
  obtain ⟨s0, sp, sn, sc, sz, rfl, _, _⟩ := open_Signed hr4 (enc_code _)
  have rcode : (rs N D m).map D0.code = [.bool, .ints, .ints] := by
    unfold rs
    split
    · exact redR_code _ _
    · rfl
  obtain ⟨g0, gp, gn, gc, gz, gp2, gn2, gc2, gz2, rfl, _, _, _⟩ := open_Rat hrr rcode
  refine ⟨_, _, _, _, _, _, _, _, _, _, _, _, rfl, ?_⟩
  intro r3 w5 hn5 r4 w6 hn6
  have e5 := hn5.r_eq; have z5 := hn5.size; have e6 := hn6.r_eq; have z6 := hn6.size
  obtain ⟨w7, st7, hb7, ch7, sz7⟩ := (hn5.blk.ext hn6.ext).storeA0 (P := P) (t := T_impl_Signed) (xs := [.bool s0, .slice sp sn sc]) (by kernel_rfl) rfl (by simp [Value.oneCell'])
  obtain ⟨w8, st8, hb8, ch8, sz8⟩ := (hn6.blk.chg ch7 (by simp; omega)).storeA0 (P := P) (t := T_impl_Rat) (xs := [.bool g0, .slice gp gn gc, .slice gp2 gn2 gc2]) (by kernel_rfl) rfl (by simp [Value.oneCell'])
  have Z : Ext w4 w8 := ((hn5.ext.trans hn6.ext).chg ch7 (by simp; omega)).chg ch8 (by simp; omega)
  have k3 := hb7.chg ch8 (by simp; omega)
  have lZ := Z.le
  have Y8 := y4.trans Z
  refine ⟨w7, st7, w8, st8, ?_⟩
  refine ifN (fun hm1 => ?_) (fun hm1 => ?_)
  · obtain ⟨W1, W2, a1, _, a2, a3, a4, a5, a6, a7⟩ := two_end (t1 := T_impl_Money) (t2 := T_impl_Rat) (b1.ext Y8) (b2.ext Y8) (X.trans Y8) (own_money0 _ (r2 + 1)) (own_rat0 _ (r2 + 1)) (by kernel_rfl) rfl (by kernel_rfl) rfl (by omega) (by omega) (by omega) (by omega) (by omega) (by omega)
    have hno : rmOk cur N D m = false := by rw [rmOk, hm1]; rfl
    exact ⟨W1, a1, W2, a2, _, _, _, _, _, a3, _, _, _, _, _, _, _, a4, _, [], _, [], by rw [hno], by rw [rmMoney, hno]; exact a5, List.nodup_nil, by rw [rmRest, hno]; exact a6, List.nodup_nil, fun k hk => by simp at hk, a7⟩
  ·
    refine ⟨_, _, _, _, k3.loadA0 (by kernel_rfl), ?_⟩
    refine Ret.at (impl_moneyOf_s (ht.ext (X.trans Y8)) cur (ho4.ext Z) nd4 (show w3.heap.size <= w8.heap.size by omega)) ?_
    rintro v w9 ⟨vs9, f9, hv, ho9, nd9, sub9, y9⟩
    subst hv
    have hr9 := ho9.reps
    obtain ⟨m0, m1, mp, mn, mc, mz, rfl, _, _⟩ := open_Money hr9 (moneyMk_code _ _)
    refine ⟨_, _, _, _, _, _, rfl, ?_⟩
    intro r5 w10 hn10
    have e10 := hn10.r_eq; have z10 := hn10.size; have l9 := y9.le
    obtain ⟨w11, st11, hb11, y11⟩ := hn10.fill (P := P) (t := T_impl_Money) (xs := [.string m0, .bool m1, .slice mp mn mc]) (by simp [Value.oneCell']) (by kernel_rfl) rfl
    have Y11 := (Y8.trans y9).trans y11
    refine ⟨w11, st11, ?_⟩
    refine ifN (fun hm2 => ?_) (fun hm2 => ?_)
    · obtain ⟨W1, W2, a1, _, a2, a3, a4, a5, a6, a7⟩ := two_end (t1 := T_impl_Money) (t2 := T_impl_Rat) (b1.ext Y11) (b2.ext Y11) (X.trans Y11) (own_money0 _ (r2 + 1)) (own_rat0 _ (r2 + 1)) (by kernel_rfl) rfl (by kernel_rfl) rfl (by omega) (by omega) (by omega) (by omega) (by omega) (by omega)
      have hno : rmOk cur N D m = false := by
        have z1' : rr N D m = rround N D m := by rw [rr, hm1]; rfl
        rw [z1'] at hm2
        rw [rmOk, hm1, hm2]; rfl
      exact ⟨W1, a1, W2, a2, _, _, _, _, _, a3, _, _, _, _, _, _, _, a4, _, [], _, [], by rw [hno], by rw [rmMoney, hno]; exact a5, List.nodup_nil, by rw [rmRest, hno]; exact a6, List.nodup_nil, fun k hk => by simp at hk, a7⟩
    have D' := Ext.drew w11
    have Y12 := Y11.trans D'
    have q1 := b1.ext Y12; have q2 := b2.ext Y12
    have k4 := hb8.ext ((y9.trans y11).trans D'); have k5 := hb11.ext D'
    have o1 := (ho9.ext y11).ext D'
    have o2 := (hor.ext Z).ext ((y9.trans y11).trans D')
    have l11 := y11.le
    obtain ⟨W1, W2, a1, ch1, a2, a3, a4, a5, a6, a7⟩ := two_end (t1 := T_impl_Money) (t2 := T_impl_Rat) q1 q2 (X.trans Y12) o1 o2 (by kernel_rfl) rfl (by kernel_rfl) rfl (by omega) (by omega) (by omega) (by omega) (by omega) (by omega)
    have z1' : rr N D m = rround N D m := by rw [rr, hm1]; rfl
    rw [z1'] at hm2 a5
    have hyes : rmOk cur N D m = true := by rw [rmOk, hm1, hm2]; rfl
    refine ⟨[r1], _, _, _, _, _, fun W hW => (k5.chg (show Chg [r1] w11.drew W from hW) (by simp; omega)).loadA0 (by kernel_rfl), _, _, _, _, _, _, _, fun W hW => (k4.chg (show Chg [r1] w11.drew W from hW) (by simp; omega)).loadA0 (by kernel_rfl), W1, a1, show Chg [r1] w11.drew W1 from ch1, W2, a2, _, _, _, _, _, a3, _, _, _, _, _, _, _, a4, _, f9, _, fr, by rw [hyes], ?_, nd9, ?_, ndr, fun k hk => dis k (sub9 k hk), a7⟩
    · rw [rmMoney, hyes]
      rw [moneyMk, hm2] at a5
      exact a5
    · rw [rmRest, hyes]
      rw [rs, hm1] at a6
      exact a6
theorem impl_DecRat_n {w : World} {xs : List Value} {m t : Nat} (h : Reps w xs (dnn m (t : Int))) (hm : (digs m).length <= 6) (ht : t <= 30) :
    Ret P n_impl_DecRat [.agg ⟨xs⟩] w fun v w' => ∃ vs f, v = .agg ⟨vs⟩ /\ Owns w' w.heap.size vs (redR (m : Int) (10 ^ t)) f /\ f.Nodup /\ Ext w w' := by
  have hr := h
  obtain ⟨a0, ap, an, ac, az, a2, rfl, hd, ha⟩ := open_Dec h rfl
  simp only [dnn, List.cons.injEq, D0.bool.injEq, D0.ints.injEq, D0.int.injEq, and_true] at hd
  obtain ⟨rfl, rfl, rfl⟩ := hd
  have hla := ha.1
  have hpow : 0 < 10 ^ t := Nat.pow_pos (by decide)
  have hten := ten_len ht
  refine impl_DecRat_ret ?_
  unfold impl_DecRat
  intro r w1 hn1 r1 w2 hn2
  have e1 := hn1.r_eq; have e2 := hn2.r_eq; have z1 := hn1.size; have z2 := hn2.size
  have X := hn1.ext.trans hn2.ext
  have b0 := hn1.blk.ext hn2.ext; have b1 := hn2.blk
  refine ⟨_, _, _, _, _, b0.loadA0 (by kernel_rfl), ?_⟩
  refine Ret.at (impl_DecOk_c (hr.ext X) rfl) ?_
  rintro v w3 ⟨hv, y3⟩
  subst hv
  rw [dnn_ok hm ⟨by omega, by omega⟩]
  refine ⟨_, rfl, ifN (fun hh => absurd hh (by simp)) (fun _ => ?_)⟩
  have D := Ext.drew w3
  have Y := y3.trans D
  have X4 := X.trans Y
  have lY := Y.le
  have b0 := b0.ext Y; have b1 := b1.ext Y
  refine ⟨_, _, _, _, fun W hW => (b0.ext hW).loadAAt 0 [.bool false, .slice ap an ac] rfl (by kernel_rfl) rfl, _, fun W hW => (b0.ext hW).loadAt 2 rfl (by kernel_rfl) rfl, ?_⟩
  intro ss w4 F1
  have S1 := (FlSt.start (o := .cells ⟨[.bool false, .slice none 0 0, .slice none 0 0]⟩ T_impl_Rat (0, 0)) w3.drew).step F1
  refine Ret.at (impl_natTen_c (k := (t : Int)) (by omega) (by omega)) ?_
  rintro v w5 ⟨p5, n5, c5, hv, o5, y5⟩
  subst hv
  rw [Int.toNat_natCast] at o5
  have l5 := o5.ints.1
  refine ⟨_, _, _, rfl, y5, ?_⟩
  intro ss1 w6 F2
  have S2 := (S1.ext y5).step F2
  have hs : Reps w6 [.bool false, .slice ap an ac] (enc (m : Int)) := by
    rw [natCast_enc]
    exact ⟨rfl, ⟨_, _, _, rfl, ha.ext (X4.trans S2.1)⟩, trivial⟩
  refine Ret.at (impl_reduce_c hs (o5.ints.ext F2.ext) hpow (by rw [Int.natAbs_natCast]; omega) (by omega)) ?_
  rintro v w7 ⟨vs7, f7, hv, ho7, nd7, y7⟩
  subst hv
  have hr7 := ho7.reps
  obtain ⟨g0, gp, gn, gc, gz, gp2, gn2, gc2, gz2, rfl, _, _, _⟩ := open_Rat hr7 (redR_code _ _)
  refine ⟨_, _, _, _, _, _, _, _, rfl, ?_⟩
  intro ss2 w8 r8 F3 G
  have S3 := (S2.ext y7).step F3
  obtain ⟨hr8, hbk⟩ := S3.get G
  have B8 : Blk w8 r8 T_impl_Rat [.bool false, .slice none 0 0, .slice none 0 0] := hbk
  obtain ⟨w9, st9, hb9, ch9, sz9⟩ := B8.storeA0 (P := P) (t := T_impl_Rat) (xs := [.bool g0, .slice gp gn gc, .slice gp2 gn2 gc2]) (by kernel_rfl) rfl (by simp [Value.oneCell'])
  have hni := Owns.notin B8 (by decide) (ho7.ext F3.ext)
  have ho9 := (ho7.ext F3.ext).chg ch9 (fun k hk hm' => hni (by simp at hm'; rwa [<- hm']))
  have Z9 : Ext w3.drew w9 := S3.1.chg ch9 (by simp; exact hr8)
  have lZ := S2.1.le
  obtain ⟨W', st, ld, ow, xx, _, _⟩ := agg_end (t := T_impl_Rat) (b1.ext Z9) (X4.trans Z9) (by omega) ho9 (by kernel_rfl) rfl (by omega) (by omega)
  exact ⟨w9, st9, _, _, _, _, _, _, _, hb9.loadA0 (by kernel_rfl), W', st, _, _, _, _, _, _, _, ld, _, f7, rfl, ow, nd7, xx⟩
theorem impl_MoneyRat_n {w : World} {xs : List Value} {c : ByteArray} {N : Int} (h : Reps w xs (.str c :: enc N)) (hok : moneyOk (.str c :: enc N) = true) (ht : Tab w) :
    Ret P n_impl_MoneyRat [.agg ⟨xs⟩] w fun v w' => ∃ vs f, v = .agg ⟨vs⟩ /\ Owns w' w.heap.size vs (rmk N 1) f /\ f.Nodup /\ Ext w w' := by
  have hr := h
  obtain ⟨t0, a0, ap, an, ac, az, rfl, hd, ha⟩ := open_Money h rfl
  simp only [enc, List.cons.injEq, D0.str.injEq, D0.bool.injEq, D0.ints.injEq, and_true] at hd
  obtain ⟨rfl, rfl, rfl⟩ := hd
  have hla := ha.1
  have h4 : (digs N.natAbs).length <= 4 := by
    simp only [moneyOk, enc, Bool.and_eq_true, decide_eq_true_eq] at hok
    exact hok.2
  refine impl_MoneyRat_ret ?_
  unfold impl_MoneyRat
  intro r w1 hn1 r1 w2 hn2
  have e1 := hn1.r_eq; have e2 := hn2.r_eq; have z1 := hn1.size; have z2 := hn2.size
  have X := hn1.ext.trans hn2.ext
  have b0 := hn1.blk.ext hn2.ext; have b1 := hn2.blk
  refine ⟨_, _, _, _, _, b0.loadA0 (by kernel_rfl), ?_⟩
  refine Ret.at (impl_MoneyOk_c (ht.ext X) (hr.ext X) rfl) ?_
  rintro v w3 ⟨hv, y3⟩
  subst hv
  rw [hok]
  refine ⟨_, rfl, ifN (fun hh => absurd hh (by simp)) (fun _ => ?_)⟩
  have l3 := y3.le
  have X3 := X.trans y3
  have hs : Reps w3 [.bool (decide (N < 0)), .slice ap an ac] (enc N) := ⟨rfl, ⟨_, _, _, rfl, ha.ext X3⟩, trivial⟩
  refine ⟨_, _, _, _, (b0.ext y3).loadAAt 1 [.bool (decide (N < 0)), .slice ap an ac] rfl (by kernel_rfl) rfl, ?_⟩
  refine Ret.at (impl_intCopy_c hs (enc_code _) (by simp only [bulks, enc, D0.bulk, List.map_cons, List.map_nil, List.sum_cons, List.sum_nil]; omega)) ?_
  rintro v w4 ⟨vs4, f4, hv, ho4, nd4, y4⟩
  subst hv
  have hr4 := ho4.reps
  obtain ⟨s0, sp, sn, sc, sz, rfl, _, _⟩ := open_Signed hr4 (enc_code _)
  refine ⟨_, _, _, _, rfl, ?_⟩
  intro r5 w5 hn5
  have e5 := hn5.r_eq; have z5 := hn5.size; have l4 := y4.le
  have hone : Own w5 w3.heap.size T_int 1 (some ⟨r5, 0, none⟩) 1 1 ((digs 1).map (Value.int .i64)) := by
    rw [digs_one]
    exact Own.of_blk hn5.blk (by omega) rfl (by decide)
  have ho5 := own_rmk (ho4.ext hn5.ext) hone
  obtain ⟨W', st, ld, ow, xx, _, _⟩ := agg_end (t := T_impl_Rat) ((b1.ext y3).ext (y4.trans hn5.ext)) (X3.trans (y4.trans hn5.ext)) (by omega) ho5 (by kernel_rfl) rfl (by omega) (by omega)
  refine ⟨W', st, _, _, _, _, _, _, _, ld, _, _, rfl, ow, ?_, xx⟩
  exact nodup_append nd4 (by simp) (m := w4.heap.size) (fun k hk => (ho4.lt k hk).2) (fun k hk => by simp at hk; omega)
end Go.Proofs.YtbgokfhcgcoipaaDoor
namespace Go.Proofs.YtbgokfhcgcoipaaDoor
open Go Go.Proofs.YtbgokfhcgcoipaaDoor.Sx
theorem decOk_parts {b : Bool} {z : List Int} {s : Int} (h : decOk [.bool b, .ints z, .int s] = true) : intOk [.bool b, .ints z] = true /\ natOk z = true /\ Limbs z /\ z.length <= 6 /\ 0 <= s /\ s <= 30 := by
  simp only [decOk, Bool.and_eq_true, decide_eq_true_eq] at h
  obtain ⟨⟨h1, h2⟩, h3⟩ := h
  have h4 : natOk z = true := by
    have := h1
    simp only [intOk, Bool.and_eq_true] at this
    exact this.1
  exact ⟨h1, h4, (natOk_spec.1 h4).1.1, h2, h3⟩
theorem taxOk_nn {b : Bool} {z : List Int} {s : Int} (h : taxOk [.bool b, .ints z, .int s] = true) : ∃ m t : Nat, b = false /\ z = digs m /\ s = (t : Int) /\ t <= 30 /\ (val z).toNat = m /\ s.toNat = t /\ m < 1000000000 := by
  simp only [taxOk, Bool.and_eq_true, decide_eq_true_eq, Bool.not_eq_true'] at h
  obtain ⟨⟨⟨h1, h2⟩, h3⟩, _⟩ := h
  obtain ⟨_, hno, hz, _, h4, h5⟩ := decOk_parts h1
  have hc := (natOk_spec.1 hno).1
  refine ⟨(val z).toNat, s.toNat, h3, (digs_val hc).symm, by omega, by omega, rfl, rfl, ?_⟩
  have hlt := val_lt hz
  have hp : (1000000000 : Int) ^ z.length <= 1000000000 := by
    match z, h2 with
    | [], _ => decide
    | [x], _ =>
      show (1000000000 : Int) ^ 1 <= 1000000000
      decide
    | _ :: _ :: _, h2 => simp at h2
  have := val_nonneg hz
  omega
theorem one_len {m : Nat} (h : m < 1000000000) : (digs m).length <= 1 := digs_len 1 (by simpa using h)
end Go.Proofs.YtbgokfhcgcoipaaDoor
namespace Go.Proofs.YtbgokfhcgcoipaaDoor
open Go Go.Proofs.YtbgokfhcgcoipaaDoor.Sx
def exN (u : Int) (m t : Nat) : Int := redN (u * redN (m : Int) (10 ^ t)) (1 * redD (m : Int) (10 ^ t))
def exD (u : Int) (m t : Nat) : Nat := redD (u * redN (m : Int) (10 ^ t)) (1 * redD (m : Int) (10 ^ t))
def taxOnT : List D0 -> List D0 -> Int -> Bool × List D0 × List D0
  | [.str c, .bool b, .ints z], [.bool b2, .ints z2, .int s], mode =>
    if moneyOk [.str c, .bool b, .ints z] && taxOk [.bool b2, .ints z2, .int s] then
      (rmOk c (exN (ival [.bool b, .ints z]) (val z2).toNat s.toNat) (exD (ival [.bool b, .ints z]) (val z2).toNat s.toNat) mode,
       rmMoney c (exN (ival [.bool b, .ints z]) (val z2).toNat s.toNat) (exD (ival [.bool b, .ints z]) (val z2).toNat s.toNat) mode,
       rmRest c (exN (ival [.bool b, .ints z]) (val z2).toNat s.toNat) (exD (ival [.bool b, .ints z]) (val z2).toNat s.toNat) mode)
    else (false, zeroMoney, rat0)
  | _, _, _ => (false, zeroMoney, rat0)
theorem rmMoney_code (c : ByteArray) (N : Int) (D : Nat) (m : Int) : (rmMoney c N D m).map D0.code = [.str, .bool, .ints] := by unfold rmMoney; split <;> rfl
theorem restR_code (N : Int) (D : Nat) (m : Int) : (restR N D m).map D0.code = [.bool, .ints, .ints] := redR_code _ _
theorem rmRest_code (c : ByteArray) (N : Int) (D : Nat) (m : Int) : (rmRest c N D m).map D0.code = [.bool, .ints, .ints] := by
  unfold rmRest
  split
  · exact restR_code _ _ _
  · rfl
theorem redR_cnt (n : Int) (d : Nat) : tcnts (redR n d) <= 100 := by
  unfold redR
  split
  · rename_i h
    simp only [redOk, Bool.and_eq_true, decide_eq_true_eq] at h
    simp only [rmk, tcnts, redN_abs]
    have : redD n d = d / Nat.gcd n.natAbs d := rfl
    rw [this]
    omega
  · decide
theorem rmMoney_cnt (c : ByteArray) (N : Int) (D : Nat) (m : Int) : tcnts (rmMoney c N D m) <= 1000000000 := by
  unfold rmMoney
  split
  · rename_i h
    simp only [rmOk, Bool.and_eq_true] at h
    have h2 := h.2
    simp only [moneyOk, enc, Bool.and_eq_true, decide_eq_true_eq] at h2
    simp only [enc, tcnts]
    omega
  · decide
theorem rmRest_cnt (c : ByteArray) (N : Int) (D : Nat) (m : Int) : tcnts (rmRest c N D m) <= 1000000000 := by
  unfold rmRest
  split
  · have := redR_cnt (N * ((1 : Nat) : Int) + -(rround N D m) * (D : Int)) (D * 1)
    unfold restR
    omega
  · decide
theorem taxOnT_facts (d0 d1 : List D0) (m : Int) : ((taxOnT d0 d1 m).2.1).map D0.code = [.str, .bool, .ints] /\ tcnts (taxOnT d0 d1 m).2.1 <= 1000000000 /\ ((taxOnT d0 d1 m).2.2).map D0.code = [.bool, .ints, .ints] /\ tcnts (taxOnT d0 d1 m).2.2 <= 1000000000 := by
  unfold taxOnT
  split
  · split
    · exact ⟨rmMoney_code _ _ _ _, rmMoney_cnt _ _ _ _, rmRest_code _ _ _ _, rmRest_cnt _ _ _ _⟩
    · exact ⟨rfl, by decide, rfl, by decide⟩
  · exact ⟨rfl, by decide, rfl, by decide⟩
theorem ex_facts {u : Int} {m t : Nat} (hu : (digs u.natAbs).length <= 4) (hm : (digs m).length <= 1) (ht : t <= 30) :
    redOk (u * redN (m : Int) (10 ^ t)) (1 * redD (m : Int) (10 ^ t)) = true /\ redR (u * redN (m : Int) (10 ^ t)) (1 * redD (m : Int) (10 ^ t)) = rmk (exN u m t) (exD u m t) /\ ratOk (rmk (exN u m t) (exD u m t)) = true /\ (digs (exN u m t).natAbs).length <= 10 /\ (digs (exD u m t)).length <= 6 /\
    redR (m : Int) (10 ^ t) = rmk (redN (m : Int) (10 ^ t)) (redD (m : Int) (10 ^ t)) /\ ratOk (rmk (redN (m : Int) (10 ^ t)) (redD (m : Int) (10 ^ t))) = true := by
  have hpow : 0 < 10 ^ t := Nat.pow_pos (by decide)
  have hten := ten_len ht
  have h1 : (digs (redN (m : Int) (10 ^ t)).natAbs).length <= 1 := Nat.le_trans redN_len (by rw [Int.natAbs_natCast]; exact hm)
  have h2 : (digs (redD (m : Int) (10 ^ t))).length <= 4 := Nat.le_trans redD_len hten
  have h3 : (digs (u * redN (m : Int) (10 ^ t)).natAbs).length <= 5 := by rw [Int.natAbs_mul]; exact prod_len hu h1
  have h4 : (digs (1 * redD (m : Int) (10 ^ t))).length <= 4 := by rw [Nat.one_mul]; exact h2
  have hd : 0 < redD (m : Int) (10 ^ t) := redD_pos hpow
  have k1 := redOk_small (n := u * redN (m : Int) (10 ^ t)) (d := 1 * redD (m : Int) (10 ^ t)) (by omega) (by omega)
  have k2 := redR_yes k1
  have k3 := redR_ok (n := u * redN (m : Int) (10 ^ t)) (d := 1 * redD (m : Int) (10 ^ t)) (by omega) k1
  have k4 := redOk_small (n := (m : Int)) (d := 10 ^ t) (by rw [Int.natAbs_natCast]; omega) (by omega)
  have k5 := redR_yes k4
  have k6 := redR_ok hpow k4
  have k7 : (digs (exN u m t).natAbs).length <= 5 := Nat.le_trans redN_len h3
  have k8 : (digs (exD u m t)).length <= 4 := Nat.le_trans redD_len h4
  exact ⟨k1, k2, by rw [k2] at k3; exact k3, by omega, by omega, k5, by rw [k5] at k6; exact k6⟩
theorem impl_TaxOn_o {w : World} {xs ys : List Value} {dx dy : List D0} (h : Reps w xs dx) (g : Reps w ys dy) (hc : dx.map D0.code = [.str, .bool, .ints]) (gc : dy.map D0.code = [.bool, .ints, .int]) (mode : Int) (ht : Tab w) :
    Ret P n_impl_TaxOn [.agg ⟨xs⟩, .agg ⟨ys⟩, .int .i64 mode] w fun v w' => ∃ vs0 f0 vs1 f1, v = .tuple #[.agg ⟨vs0⟩, .agg ⟨vs1⟩, .bool (taxOnT dx dy mode).1] /\ Owns w' w.heap.size vs0 (taxOnT dx dy mode).2.1 f0 /\ f0.Nodup /\ Owns w' w.heap.size vs1 (taxOnT dx dy mode).2.2 f1 /\ f1.Nodup /\ (∀ k ∈ f0, k ∉ f1) /\ Ext w w' := by
  have hr := h; have gr := g; have htb := ht
  obtain ⟨cur, a0, ap, an, ac, az, rfl, rfl, ha⟩ := open_Money h hc
  obtain ⟨b0', bp, bn, bc, bz, b2', rfl, rfl, hb⟩ := open_Dec g gc
  refine impl_TaxOn_ret ?_
  unfold impl_TaxOn
  intro r w1 hn1 r1 w2 hn2 r2 w3 hn3 r3 w4 hn4
  have e1 := hn1.r_eq; have e2 := hn2.r_eq; have e3 := hn3.r_eq; have e4 := hn4.r_eq; have z1 := hn1.size; have z2 := hn2.size; have z3 := hn3.size; have z4 := hn4.size
  have X := ((hn1.ext.trans hn2.ext).trans hn3.ext).trans hn4.ext
  have b0 := ((hn1.blk.ext hn2.ext).ext hn3.ext).ext hn4.ext; have b1 := (hn2.blk.ext hn3.ext).ext hn4.ext; have b2 := hn3.blk.ext hn4.ext; have b3 := hn4.blk
  have zero : ∀ W, Ext w4 W -> (moneyOk [.str cur, .bool a0, .ints az] && taxOk [.bool b0', .ints bz, .int b2']) = false -> ∃ W1, Stores P T_impl_Money ⟨r2, 0, none⟩ (.agg ⟨[.string ByteArray.empty, .bool false, .slice none 0 0]⟩) W W1 /\ ∃ W2, Stores P T_impl_Rat ⟨r3, 0, none⟩ (.agg ⟨[.bool false, .slice none 0 0, .slice none 0 0]⟩) W1 W2 /\ Loads P T_impl_Money ⟨r2, 0, none⟩ (.agg ⟨[.string ByteArray.empty, .bool false, .slice none 0 0]⟩) W2 /\ Loads P T_impl_Rat ⟨r3, 0, none⟩ (.agg ⟨[.bool false, .slice none 0 0, .slice none 0 0]⟩) W2 /\ Owns W2 w.heap.size [.string ByteArray.empty, .bool false, .slice none 0 0] zeroMoney [] /\ Owns W2 w.heap.size [.bool false, .slice none 0 0, .slice none 0 0] rat0 [] /\ Ext w W2 /\ taxOnT [.str cur, .bool a0, .ints az] [.bool b0', .ints bz, .int b2'] mode = (false, zeroMoney, rat0) := by
    intro W hW hno
    obtain ⟨W1, W2, a1, _, a2, a3, a4, a5, a6, a7⟩ := two_end (t1 := T_impl_Money) (t2 := T_impl_Rat) (b2.ext hW) (b3.ext hW) (X.trans hW) (own_money0 W (r3 + 1)) (own_rat0 W (r3 + 1)) (by kernel_rfl) rfl (by kernel_rfl) rfl (by omega) (by omega) (by omega) (by omega) (by omega) (by omega)
    exact ⟨W1, a1, W2, a2, a3, a4, a5, a6, a7, by simp only [taxOnT, hno, Bool.false_eq_true, if_false]⟩
  refine ⟨_, _, _, _, _, b0.loadA0 (by kernel_rfl), ?_⟩
  refine Ret.at (impl_MoneyOk_c (ht.ext X) (hr.ext X) rfl) ?_
  rintro v w5 ⟨hv, y5⟩
  subst hv
  refine ⟨_, rfl, ifN (fun hno => ifT ?_) (fun hm => ⟨_, _, _, _, _, (b1.ext y5).loadA0 (by kernel_rfl), ?_⟩)⟩
  · obtain ⟨W1, a1, W2, a2, a3, a4, a5, a6, a7, a8⟩ := zero _ y5 (by rw [hno]; rfl)
    rw [a8]
    exact ⟨W1, a1, W2, a2, _, _, _, _, _, a3, _, _, _, _, _, _, _, a4, _, [], _, [], rfl, a5, List.nodup_nil, a6, List.nodup_nil, fun k hk => by simp at hk, a7⟩
  refine Ret.at (impl_TaxRateOk_c (gr.ext (X.trans y5)) rfl) ?_
  rintro v w6 ⟨hv, y6⟩
  subst hv
  have Y6 := y5.trans y6
  refine ⟨_, rfl, ifN (fun hno => ?_) (fun ht => ?_)⟩
  · obtain ⟨W1, a1, W2, a2, a3, a4, a5, a6, a7, a8⟩ := zero _ Y6 (by rw [hno, Bool.and_false])
    rw [a8]
    exact ⟨W1, a1, W2, a2, _, _, _, _, _, a3, _, _, _, _, _, _, _, a4, _, [], _, [], rfl, a5, List.nodup_nil, a6, List.nodup_nil, fun k hk => by simp at hk, a7⟩
  have hres : taxOnT [.str cur, .bool a0, .ints az] [.bool b0', .ints bz, .int b2'] mode = (rmOk cur (exN (ival [.bool a0, .ints az]) (val bz).toNat b2'.toNat) (exD (ival [.bool a0, .ints az]) (val bz).toNat b2'.toNat) mode, rmMoney cur (exN (ival [.bool a0, .ints az]) (val bz).toNat b2'.toNat) (exD (ival [.bool a0, .ints az]) (val bz).toNat b2'.toNat) mode, rmRest cur (exN (ival [.bool a0, .ints az]) (val bz).toNat b2'.toNat) (exD (ival [.bool a0, .ints az]) (val bz).toNat b2'.toNat) mode) := by
    simp only [taxOnT, hm, ht, Bool.and_self, if_true]
  rw [hres]
  obtain ⟨m, t, rfl, rfl, rfl, ht30, em, et, hm9⟩ := taxOk_nn ht
  rw [em, et]
  have henc := (intOk_enc (moneyOk_int hm)).1
  generalize ival [.bool a0, .ints az] = U at henc
  have hm' : moneyOk (.str cur :: enc U) = true := by rw [<- henc]; exact hm
  have hl4 : (digs U.natAbs).length <= 4 := by
    simp only [moneyOk, enc, Bool.and_eq_true, decide_eq_true_eq] at hm'
    exact hm'.2
  obtain ⟨k1, k2, k3, k4, k5, k6, k7⟩ := ex_facts hl4 (one_len hm9) ht30
  unfold impl_TaxOn_j0
  have D := Ext.drew w6
  have Y := Y6.trans D
  have X7 := X.trans Y
  have lY := Y.le
  have b0 := b0.ext Y; have b1 := b1.ext Y; have b2 := b2.ext Y; have b3 := b3.ext Y
  refine ⟨_, _, _, _, _, fun W hW => (b0.ext hW).loadA0 (by kernel_rfl), ?_⟩
  intro ss w8 F1
  have S1 := (FlSt.start (o := .cells ⟨[.bool false, .slice none 0 0, .slice none 0 0]⟩ T_impl_Rat (0, 0)) w6.drew).step F1
  have hmr : Reps w8 [.string cur, .bool a0, .slice ap an ac] (.str cur :: enc U) := by
    rw [<- henc]
    exact hr.ext (X7.trans S1.1)
  refine Ret.at (impl_MoneyRat_n hmr hm' (htb.ext (X7.trans S1.1))) ?_
  rintro v w9 ⟨vs9, f9, hv, ho9, _, y9⟩
  subst hv
  have hr9 := ho9.reps
  obtain ⟨s0, sp, sn, sc, sz, sp2, sn2, sc2, sz2, rfl, _, _, _⟩ := open_Rat hr9 (rmk_code _ _)
  refine ⟨_, _, _, _, _, _, _, rfl, y9, _, _, _, _, _, fun W hW => (b1.ext hW).loadA0 (by kernel_rfl), ?_⟩
  intro ss1 w10 F2
  have S2 := (S1.ext y9).step F2
  have hdr : Reps w10 [.bool false, .slice bp bn bc, .int .i64 (t : Int)] (dnn m (t : Int)) := gr.ext (X7.trans S2.1)
  refine Ret.at (impl_DecRat_n hdr (Nat.le_trans (one_len hm9) (by decide)) ht30) ?_
  rintro v w11 ⟨vs11, f11, hv, ho11, _, y11⟩
  subst hv
  rw [k6] at ho11
  have hr11 := ho11.reps
  obtain ⟨u0, up, un, uc, uz, up2, un2, uc2, uz2, rfl, _, _, _⟩ := open_Rat hr11 (rmk_code _ _)
  refine ⟨_, _, _, _, _, _, _, rfl, ?_⟩
  intro ss2 w12 F3
  have S3 := (S2.ext y11).step F3
  refine Ret.at (impl_RatMul_n (hr9.ext ((F2.ext.trans y11).trans F3.ext)) (hr11.ext F3.ext) (rmk_int_ok (by omega)) k7) ?_
  rintro v w13 ⟨vs13, f13, hv, ho13, _, y13⟩
  subst hv
  rw [k2] at ho13
  rw [k1]
  have hr13 := ho13.reps
  obtain ⟨g0, gp, gn, gc', gz, gp2, gn2, gc2, gz2, rfl, _, _, _⟩ := open_Rat hr13 (rmk_code _ _)
  refine ⟨_, _, _, _, _, _, _, _, rfl, ?_⟩
  intro ss3 w14 r8 F4 G
  have S4 := (S3.ext y13).step F4
  obtain ⟨hr8, hbk⟩ := S4.get G
  have B8 : Blk w14 r8 T_impl_Rat [.bool false, .slice none 0 0, .slice none 0 0] := hbk
  obtain ⟨w15, st15, hb15, ch15, sz15⟩ := B8.storeA0 (P := P) (t := T_impl_Rat) (xs := [.bool g0, .slice gp gn gc', .slice gp2 gn2 gc2]) (by kernel_rfl) rfl (by simp [Value.oneCell'])
  have hni := Owns.notin B8 (by decide) (ho13.ext F4.ext)
  have ho15 := (ho13.ext F4.ext).chg ch15 (fun k hk hm' => hni (by simp at hm'; rwa [<- hm']))
  have Z : Ext w6.drew w15 := S4.1.chg ch15 (by simp; exact hr8)
  have X15 := X7.trans Z
  have lZ := Z.le
  refine ⟨w15, st15, ?_⟩
  refine ifN (fun hh => absurd hh (by simp)) (fun _ => ?_)
  refine ⟨_, (b0.ext Z).loadAt 0 rfl (by kernel_rfl) rfl, _, _, _, _, _, _, _, hb15.loadA0 (by kernel_rfl), ?_⟩
  refine Ret.at (impl_RatMoney_n (m := mode) cur ho15.reps k3 k4 k5 (htb.ext X15)) ?_
  rintro v w16 ⟨vs16, f16, vsr, fr, hv, ho16, nd16, hor, ndr, dis, y16⟩
  subst hv
  have hr16 := ho16.reps; have hrr := hor.reps
  obtain ⟨m0, m1, mp, mn, mc, mz, rfl, _, _⟩ := open_Money hr16 (rmMoney_code _ _ _ _)
  obtain ⟨v0, vp, vn, vc, vz, vp2, vn2, vc2, vz2, rfl, _, _, _⟩ := open_Rat hrr (rmRest_code _ _ _ _)
  have Y16 := Z.trans y16
  obtain ⟨W1, W2, a1, _, a2, a3, a4, a5, a6, a7⟩ := two_end (t1 := T_impl_Money) (t2 := T_impl_Rat) (b2.ext Y16) (b3.ext Y16) (X7.trans Y16) ho16 hor (by kernel_rfl) rfl (by kernel_rfl) rfl (by omega) (by omega) (by omega) (by omega) (by omega) (by omega)
  exact ⟨_, _, _, _, _, _, _, _, _, _, _, _, _, rfl, W1, a1, W2, a2, _, _, _, _, _, a3, _, _, _, _, _, _, _, a4, _, f16, _, fr, rfl, a5, nd16, a6, ndr, dis, a7⟩
end Go.Proofs.YtbgokfhcgcoipaaDoor
namespace Go.Proofs.YtbgokfhcgcoipaaDoor
open Go Go.Proofs.YtbgokfhcgcoipaaDoor.Sx
theorem Sx.copyI {w : World} {r : Nat} {q : Option Addr} {n d : Nat} {ys zs : List Int} (hb : Blk w r T_int (zs.map (Value.int .i64))) (hz : zs.length = n) (k : IntsR w q n d ys) :
    ∃ w', Copies P [T_s_int, T_s_int] [.slice (some ⟨r, 0, none⟩) n n, .slice q n d] (goInt n) w w' /\ Blk w' r T_int (ys.map (Value.int .i64)) /\ Chg [r] w w' /\ w'.heap.size = w.heap.size := by
  obtain ⟨hu, hi, hz0, hs⟩ := sliceT_int
  cases hinf : P.info? T_int with
  | none => rw [hinf] at hi; cases hi
  | some i =>
    rw [hinf] at hi
    simp only [Option.map_some, Option.some.injEq, Prod.mk.injEq] at hi
    have hy := k.1
    cases q with
    | none =>
      have hm0 : n = 0 := by
        rcases Nat.eq_zero_or_pos n with h0 | h0
        · exact h0
        · obtain ⟨b, off, hp, _⟩ := k.2.2.2 h0; cases hp
      subst hm0
      have h1 : ys = [] := List.eq_nil_of_length_eq_zero hy
      have h2 : zs = [] := List.eq_nil_of_length_eq_zero hz
      subst h1; subst h2
      refine ⟨w, ?_, hb, Chg.refl _ _, rfl⟩
      show (Builtin.copy_ #[T_s_int, T_s_int] 0 #[.slice (some ⟨r, 0, none⟩) 0 0, .slice none 0 d]).run P w = .ok (goInt 0) w
      simp [Builtin.copy_, run_underlying hu, Builtin.lenOf, Builtin.firstCells, sizeOf, typeInfo, hinf, storeCells]
    | some a =>
      have hcells : ∀ j u, (ys.map (Value.int .i64))[j]? = some u -> w.cell? (a.add j) = some u := by
        intro j u hj
        have hl : j < n := by
          have := (List.getElem?_eq_some_iff.1 hj).1
          rw [List.length_map, hy] at this; exact this
        obtain ⟨b, off, hp, hseg⟩ := k.2.2.2 (by omega)
        cases hp
        rw [addr_add]
        exact hseg j u hj
      have := run_copy_row (P := P) w T_s_int T_s_int 0 T_int r 0 n n a n d ⟨zs.map (Value.int .i64)⟩ T_int (ys.map (Value.int .i64)) hu (by rw [hinf]; simp [hi.2.1]) hb (by simp [hy]) hcells (by simp [hy, hz]) (by simp [Value.oneCell'])
      have e : ((⟨zs.map (Value.int .i64)⟩ : Array Value).toList.take 0 ++ ys.map (Value.int .i64) ++ (⟨zs.map (Value.int .i64)⟩ : Array Value).toList.drop (0 + (ys.map (Value.int .i64)).length)) = ys.map (Value.int .i64) := by
        rw [List.take_zero, List.nil_append, List.drop_of_length_le (by simp [hy, hz]), List.append_nil]
      rw [e] at this
      refine ⟨_, ?_, setRow_heap w r _ _ T_int _ hb, setRow_chg _ _ _, by simp⟩
      have e2 : (ys.map (Value.int .i64)).length = n := by simp [hy]
      rw [e2] at this
      exact this
theorem impl_moneyCopy_c {w : World} {xs : List Value} {dx : List D0} (h : Reps w xs dx) (hc : dx.map D0.code = [.str, .bool, .ints]) (hb : bulks dx <= 100000000) :
    Ret P n_impl_moneyCopy [.agg ⟨xs⟩] w fun v w' => ∃ vs' f, v = .agg ⟨vs'⟩ /\ Owns w' w.heap.size vs' dx f /\ f.Nodup /\ Ext w w' := by
  obtain ⟨t0, a0, a1p, a1n, a1c, a1z, rfl, rfl, ha⟩ := open_Money h hc
  have l1 := ha.1
  simp only [bulks, D0.bulk, List.map_cons, List.map_nil, List.sum_cons, List.sum_nil] at hb
  refine impl_moneyCopy_ret ?_
  unfold impl_moneyCopy
  intro r w1 hn1 r1 w2 hn2
  have k0 := hn1.blk.ext hn2.ext
  have e2 := hn2.r_eq; have s1 := hn1.size; have s2 := hn2.size
  refine ⟨_, _, _, k0.loadAt 2 rfl (by kernel_rfl) rfl, ⟨by omega, by omega, by omega⟩, ?_⟩
  intro r2 w3 hn3
  have e3 := hn3.r_eq; have s3 := hn3.size
  have hblk := hn3.blk
  rw [zeroRow_int, Nat.mul_one, show (List.replicate a1n (Value.int .i64 0)) = (List.replicate a1n (0 : Int)).map (Value.int .i64) by simp] at hblk
  obtain ⟨w4, cp, hb4, ch4, sz4⟩ := copyI hblk (by simp) (ha.ext ((hn1.ext.trans hn2.ext).trans hn3.ext))
  have D := Ext.drew w4
  have Y := ((hn1.ext.trans hn2.ext).trans hn3.ext).chg ch4 (by simp; omega)
  have k0 := (k0.ext hn3.ext).chg ch4 (by have := hn1.r_eq; simp; omega)
  have k1 := (hn2.blk.ext hn3.ext).chg ch4 (by simp; omega)
  have lD := D.le
  refine ⟨_, _, _, (hn1.blk.ext (hn2.ext.trans hn3.ext)).loadAt 2 rfl (by kernel_rfl) rfl, _, w4, cp, _, fun W hW => (k0.ext (D.trans hW)).loadAt 0 rfl (by kernel_rfl) rfl, _, fun W hW => (k0.ext (D.trans hW)).loadAt 1 rfl (by kernel_rfl) rfl, ⟨by omega, by omega⟩, ⟨by omega, by omega⟩, ?_⟩
  obtain ⟨w7, st, hb7, ch, sz⟩ := (k1.ext D).storeA0 (P := P) (t := T_impl_Money) (xs := [.string t0, .bool a0, .slice (some ⟨r2, 0, none⟩) a1n a1n]) (by kernel_rfl) rfl (by simp [Value.oneCell'])
  have q1 : Own w7 w.heap.size T_int 1 (some ⟨r2, 0, none⟩) a1n a1n (a1z.map (Value.int .i64)) := Own.of_blk ((hb4.ext D).chg ch (by simp; omega)) (by omega) (by simp [l1]) (by simp only [maxLen]; omega)
  have es : sub (some ⟨r2, 0, none⟩) 0 a1n 1 = some ⟨r2, 0, none⟩ := by simp [sub, Addr.add]
  rw [es, Nat.sub_zero]
  exact ⟨w7, st, _, _, _, _, _, hb7.loadA0 (by kernel_rfl), _, _, rfl, Owns.append (Owns.str _ _ t0) (Owns.append (Owns.bool _ _ a0) (Owns.ints q1)), by simp, (Y.trans D).chg ch (by simp; omega)⟩
end Go.Proofs.YtbgokfhcgcoipaaDoor
namespace Go.Proofs.YtbgokfhcgcoipaaDoor
open Go Go.Proofs.YtbgokfhcgcoipaaDoor.Sx
def row0 : List D0 := [.str ByteArray.empty, .bool false, .ints [], .str ByteArray.empty, .bool false, .ints [], .str ByteArray.empty, .bool false, .ints []]
def rowOf (c : ByteArray) (i p l : Int) : List D0 := (.str c :: enc i) ++ ((.str c :: enc p) ++ (.str c :: enc l))
def lesser (d p : Int) : Int := if d < p then d else p
def nextT : List D0 -> List D0 -> List D0 -> Int -> Bool × List D0
  | [.str c, .bool b, .ints z], dr, [.str c2, .bool b2, .ints z2], mode =>
    if alk [.str c, .bool b, .ints z] [.str c2, .bool b2, .ints z2] && (!b && !b2) && ((taxOnT [.str c, .bool b, .ints z] dr mode).1 && moneyOk (.str c :: enc (ival [.bool b, .ints z] + moneyVal (taxOnT [.str c, .bool b, .ints z] dr mode).2.1))) then
      (true, rowOf c (moneyVal (taxOnT [.str c, .bool b, .ints z] dr mode).2.1) (lesser (ival [.bool b, .ints z] + moneyVal (taxOnT [.str c, .bool b, .ints z] dr mode).2.1) (ival [.bool b2, .ints z2])) (ival [.bool b, .ints z] + moneyVal (taxOnT [.str c, .bool b, .ints z] dr mode).2.1 - lesser (ival [.bool b, .ints z] + moneyVal (taxOnT [.str c, .bool b, .ints z] dr mode).2.1) (ival [.bool b2, .ints z2])))
    else (false, row0)
  | _, _, _, _ => (false, row0)
theorem own_row0 (W : World) (B : Nat) : Owns W B [.string ByteArray.empty, .bool false, .slice none 0 0, .string ByteArray.empty, .bool false, .slice none 0 0, .string ByteArray.empty, .bool false, .slice none 0 0] row0 [] :=
  Owns.append (own_money0 W B) (Owns.append (own_money0 W B) (own_money0 W B))
theorem moneyc (c : ByteArray) (i : Int) : (D0.str c :: enc i).map D0.code = [.str, .bool, .ints] := rfl
theorem sgn_neg {z : Int} : sgn z < 0 ↔ z < 0 := by unfold sgn; split <;> (try split) <;> omega
theorem lesser_lt {d p : Int} (h : d < p) : lesser d p = d := if_pos h
theorem lesser_ge {d p : Int} (h : ¬ d < p) : lesser d p = p := if_neg h
theorem alk_enc {c : ByteArray} {d p : Int} (h : moneyOk (.str c :: enc d) = true) (g : moneyOk (.str c :: enc p) = true) : alk (.str c :: enc d) (.str c :: enc p) = true := by
  have h' : moneyOk [.str c, .bool (decide (d < 0)), .ints (digs d.natAbs)] = true := h
  have g' : moneyOk [.str c, .bool (decide (p < 0)), .ints (digs p.natAbs)] = true := g
  show (moneyOk [.str c, .bool (decide (d < 0)), .ints (digs d.natAbs)] && (moneyOk [.str c, .bool (decide (p < 0)), .ints (digs p.natAbs)] && decide (c = c))) = true
  rw [h', g', decide_eq_true rfl]; rfl
theorem money_lim {c : ByteArray} {d : Int} (h : moneyOk (.str c :: enc d) = true) : d.natAbs <= 1000000000000000000000000000000000000 := by
  have := money_bound (c := c) (b := decide (d < 0)) (z := digs d.natAbs) h
  rwa [show ival [.bool (decide (d < 0)), .ints (digs d.natAbs)] = d from ival_enc d] at this
theorem money_len {c : ByteArray} {d : Int} (h : moneyOk (.str c :: enc d) = true) : (digs d.natAbs).length <= 4 := by
  have h' : (curKnown c && intOk (enc d) && decide ((digs d.natAbs).length <= 4)) = true := h
  rw [Bool.and_eq_true, decide_eq_true_eq] at h'
  exact h'.2
theorem money_cur {c : ByteArray} {d : Int} (h : moneyOk (.str c :: enc d) = true) : curKnown c = true := by
  have h' : (curKnown c && intOk (enc d) && decide ((digs d.natAbs).length <= 4)) = true := h
  rw [Bool.and_eq_true, Bool.and_eq_true] at h'
  exact h'.1.1
theorem money_str {c : ByteArray} {d : Int} (h : moneyOk (.str c :: enc d) = true) : c.size <= 50 := by
  have h1 : (implTab.all fun r => decide (r.1.size <= 50)) = true := by decide +kernel
  have h2 := money_cur h
  unfold curKnown curIn at h2
  rw [List.any_eq_true] at h2
  obtain ⟨r, hr, he⟩ := h2
  rw [List.all_eq_true] at h1
  have := of_decide_eq_true (h1 r hr)
  rwa [of_decide_eq_true he] at this
theorem money_less {c : ByteArray} {d e : Int} (h : moneyOk (.str c :: enc d) = true) (he : e.natAbs <= d.natAbs) : moneyOk (.str c :: enc e) = true := by
  have hl := digs_mono_len he
  have h4 := money_len h
  have h3 : (digs e.natAbs).length <= 4 := Nat.le_trans hl h4
  have h5 : intOk (enc e) = true := enc_ok (by omega)
  have h6 : curKnown c = true := money_cur h
  show (curKnown c && intOk (enc e) && decide ((digs e.natAbs).length <= 4)) = true
  rw [h5, h6, decide_eq_true h3]; rfl
theorem taxOnT_no {d0 d1 : List D0} {m : Int} : (taxOnT d0 d1 m).1 = false -> (taxOnT d0 d1 m).2.1 = zeroMoney := by
  unfold taxOnT
  split
  · split
    · intro h
      show rmMoney _ _ _ _ = _
      unfold rmMoney
      rw [show rmOk _ _ _ _ = false from h]; rfl
    · intro _; rfl
  · intro _; rfl
theorem redN_nn {n : Int} {d : Nat} (h : 0 <= n) : 0 <= redN n d := by unfold redN; rw [if_neg (by omega)]; exact Int.natCast_nonneg _
theorem taxOnT_yes {c : ByteArray} {b : Bool} {z : List Int} {d1 : List D0} {m : Int} (h : (taxOnT [.str c, .bool b, .ints z] d1 m).1 = true) (hb : b = false) : (taxOnT [.str c, .bool b, .ints z] d1 m).2.1 = .str c :: enc (moneyVal (taxOnT [.str c, .bool b, .ints z] d1 m).2.1) /\ moneyOk (.str c :: enc (moneyVal (taxOnT [.str c, .bool b, .ints z] d1 m).2.1)) = true /\ 0 <= moneyVal (taxOnT [.str c, .bool b, .ints z] d1 m).2.1 := by
  subst hb
  match d1, h with
  | [.bool b2, .ints z2, .int s], h =>
    have hh : (moneyOk [.str c, .bool false, .ints z] && taxOk [.bool b2, .ints z2, .int s]) = true := by
      rcases hq : (moneyOk [.str c, .bool false, .ints z] && taxOk [.bool b2, .ints z2, .int s]) with _ | _
      · simp only [taxOnT, hq, Bool.false_eq_true, if_false] at h
      · rfl
    have hok : moneyOk [.str c, .bool false, .ints z] = true := by rw [Bool.and_eq_true] at hh; exact hh.1
    obtain ⟨_, b', z', he, hcan, _⟩ := intOk_enc (moneyOk_int hok)
    simp only [List.cons.injEq, D0.bool.injEq, D0.ints.injEq, and_true] at he
    obtain ⟨rfl, rfl⟩ := he
    have hv : 0 <= ival [.bool false, .ints z] := by
      show 0 <= (if (false : Bool) = true then -(val z) else val z)
      exact val_nonneg hcan.1
    simp only [taxOnT, hh, if_true] at h ⊢
    have hm : rmMoney c (exN (ival [.bool false, .ints z]) (val z2).toNat s.toNat) (exD (ival [.bool false, .ints z]) (val z2).toNat s.toNat) m = .str c :: enc (rround (exN (ival [.bool false, .ints z]) (val z2).toNat s.toNat) (exD (ival [.bool false, .ints z]) (val z2).toNat s.toNat) m) := by unfold rmMoney; rw [h]; rfl
    have hn : 0 <= exN (ival [.bool false, .ints z]) (val z2).toNat s.toNat := redN_nn (Int.mul_nonneg hv (redN_nn (by omega)))
    rw [hm]
    have e : moneyVal (.str c :: enc (rround (exN (ival [.bool false, .ints z]) (val z2).toNat s.toNat) (exD (ival [.bool false, .ints z]) (val z2).toNat s.toNat) m)) = rround (exN (ival [.bool false, .ints z]) (val z2).toNat s.toNat) (exD (ival [.bool false, .ints z]) (val z2).toNat s.toNat) m := ival_enc _
    rw [e]
    simp only [rmOk, Bool.and_eq_true] at h
    refine ⟨rfl, h.2, ?_⟩
    unfold rround
    rw [if_neg (by omega)]
    omega
theorem impl_MoneyAdd_e {w : World} {xs ys : List Value} {c : ByteArray} {d p : Int} (h : Reps w xs (.str c :: enc d)) (g : Reps w ys (.str c :: enc p)) (okd : moneyOk (.str c :: enc d) = true) (okp : moneyOk (.str c :: enc p) = true) (ht : Tab w) :
    Ret P n_impl_MoneyAdd [.agg ⟨xs⟩, .agg ⟨ys⟩] w fun v w' => ∃ vs f, v = .tuple #[.agg ⟨vs⟩, .bool (moneyOk (.str c :: enc (d + p)))] /\ Owns w' w.heap.size vs (moneyMk c (d + p)) f /\ f.Nodup /\ Ext w w' := by
  have k := impl_MoneyAdd_n h g ht
  change Ret P _ _ _ (fun v w' => ∃ vs f, v = .tuple #[.agg ⟨vs⟩, .bool (mres (alk (.str c :: enc d) (.str c :: enc p)) c (ival (enc d) + ival (enc p))).1] /\ Owns w' w.heap.size vs (mres (alk (.str c :: enc d) (.str c :: enc p)) c (ival (enc d) + ival (enc p))).2 f /\ f.Nodup /\ Ext w w') at k
  rw [alk_enc okd okp, ival_enc, ival_enc] at k
  exact k
theorem impl_MoneySub_e {w : World} {xs ys : List Value} {c : ByteArray} {d p : Int} (h : Reps w xs (.str c :: enc d)) (g : Reps w ys (.str c :: enc p)) (okd : moneyOk (.str c :: enc d) = true) (okp : moneyOk (.str c :: enc p) = true) (ht : Tab w) :
    Ret P n_impl_MoneySub [.agg ⟨xs⟩, .agg ⟨ys⟩] w fun v w' => ∃ vs f, v = .tuple #[.agg ⟨vs⟩, .bool (moneyOk (.str c :: enc (d - p)))] /\ Owns w' w.heap.size vs (moneyMk c (d - p)) f /\ f.Nodup /\ Ext w w' := by
  have k := impl_MoneySub_n h g ht
  change Ret P _ _ _ (fun v w' => ∃ vs f, v = .tuple #[.agg ⟨vs⟩, .bool (mres (alk (.str c :: enc d) (.str c :: enc p)) c (ival (enc d) - ival (enc p))).1] /\ Owns w' w.heap.size vs (mres (alk (.str c :: enc d) (.str c :: enc p)) c (ival (enc d) - ival (enc p))).2 f /\ f.Nodup /\ Ext w w') at k
  rw [alk_enc okd okp, ival_enc, ival_enc] at k
  exact k
theorem impl_NextRow_j1_n {w W : World} {B r2 r3 r4 r6 : Nat} {vi vd vp : List Value} {c : ByteArray} {i d p : Int} {fi : List Nat} (X : Ext w W) (h2 : Blk W r2 T_impl_Money vp) (h3 : Blk W r3 T_impl_Row [.string ByteArray.empty, .bool false, .slice none 0 0, .string ByteArray.empty, .bool false, .slice none 0 0, .string ByteArray.empty, .bool false, .slice none 0 0]) (h4 : Blk W r4 T_impl_Money vi) (h6 : Blk W r6 T_impl_Money vd) (oi : Owns W B vi (.str c :: enc i) fi) (ndi : fi.Nodup) (hd : Reps W vd (.str c :: enc d)) (hp : Reps W vp (.str c :: enc p)) (okd : moneyOk (.str c :: enc d) = true) (okp : moneyOk (.str c :: enc p) = true) (okr : moneyOk (.str c :: enc (d - p)) = true) (hp0 : 0 <= p) (hr3 : w.heap.size <= r3) (hrB : r3 < B) (hB : B <= W.heap.size) (ht : Tab W) :
    impl_NextRow_j1 r2 r3 r4 r6 W (fun v w' => ∃ vs f, v = .tuple #[.agg ⟨vs⟩, .bool true] /\ Owns w' w.heap.size vs (rowOf c i p (d - p)) f /\ f.Nodup /\ Ext w w') := by
  have hpr := hp
  obtain ⟨i0, i1, ip, in_, ic, iz, rfl, _, _⟩ := open_Money oi.reps (moneyc c i)
  obtain ⟨d0, d1, dp, dn, dc, dz, rfl, _, _⟩ := open_Money hd (moneyc c d)
  obtain ⟨p0, p1, pp, pn, pc, pz, rfl, hpd, hpi⟩ := open_Money hp (moneyc c p)
  have l3 := h3.lt
  unfold impl_NextRow_j1
  refine ⟨_, _, _, _, _, h6.loadA0 (by kernel_rfl), _, _, _, _, _, h2.loadA0 (by kernel_rfl), ?_⟩
  refine Ret.at (impl_MoneySub_e hd hp okd okp ht) ?_
  rintro v w1 ⟨vs1, f1, hv, o1, nd1, y1⟩
  subst hv
  have l1 := y1.le
  have hmk : moneyMk c (d - p) = .str c :: enc (d - p) := by rw [moneyMk, if_pos okr]
  rw [hmk] at o1
  rw [okr]
  obtain ⟨m0, m1, mp, mn, mc, mz, rfl, _, _⟩ := open_Money o1.reps (moneyc c (d - p))
  refine ⟨_, _, _, _, _, _, rfl, ?_⟩
  intro r7 w2 hn2
  have e2 := hn2.r_eq; have s2 := hn2.size
  obtain ⟨w3, st3, hb3, y3⟩ := hn2.fill (P := P) (t := T_impl_Money) o1.reps.cells1 (by kernel_rfl) rfl
  have Y := (y1.trans y3).trans (Ext.drew w3)
  have lY := Y.le; have l3' := y3.le
  have D := Ext.drew w3
  refine ⟨w3, st3, ifN (fun hh => absurd hh (by simp)) (fun _ => ⟨_, _, _, _, _, fun W hW => ((h4.ext Y).ext hW).loadA0 (by kernel_rfl), _, _, _, _, _, fun W hW => ((h2.ext Y).ext hW).loadA0 (by kernel_rfl), ?_⟩)⟩
  refine Ret.at (impl_moneyCopy_c (hpr.ext Y) rfl (by
    have := money_len okp
    simp only [bulks, enc, D0.bulk, List.map_cons, List.map_nil, List.sum_cons, List.sum_nil]
    have hs := money_str okp
    omega)) ?_
  rintro v w5 ⟨vs5, f5, hv, o5, nd5, y5⟩
  subst hv
  obtain ⟨q0, q1, qp, qn, qc, qz, rfl, _, _⟩ := open_Money o5.reps (moneyc c p)
  refine ⟨_, _, _, _, _, rfl, y5, _, _, _, _, _, fun W hW => ((hb3.ext D).ext hW).loadA0 (by kernel_rfl), ?_⟩
  have o1' := (o1.ext ((y3.trans D).trans y5))
  have oi' := oi.ext (Y.trans y5)
  have all : Owns w5 B _ (rowOf c i p (d - p)) (fi ++ (f5 ++ f1)) := Owns.append oi' (Owns.append (o5.mono (by omega)) (o1'.mono (by omega)))
  have l5 := y5.le
  obtain ⟨W', st', ld', ow', xx', _, _⟩ := agg_end (t := T_impl_Row) ((h3.ext Y).ext y5) ((X.trans Y).trans y5) hr3 all (by kernel_rfl) rfl hrB (by omega)
  refine ⟨W', st', _, _, _, _, _, _, _, _, _, _, _, _, _, _, _, ld', _, _, rfl, ow', ?_, xx'⟩
  refine nodup_append ndi ?_ (m := W.heap.size) (fun k hk => (oi.lt k hk).2) (fun k hk => ?_)
  · have hh := nodup_append nd1 nd5 (m := w1.heap.size) (fun k hk => (o1.lt k hk).2) (fun k hk => by have := (o5.lt k hk).1; have := y3.le; have := D.le; omega)
    exact (List.perm_append_comm.nodup_iff).1 hh
  · rcases List.mem_append.1 hk with hk | hk
    · have := (o5.lt k hk).1; omega
    · have := (o1.lt k hk).1; omega
theorem impl_NextRow_o {w : World} {xs ys zs : List Value} {dx dr dp : List D0} (h : Reps w xs dx) (hc : dx.map D0.code = [.str, .bool, .ints]) (g : Reps w ys dr) (gc : dr.map D0.code = [.bool, .ints, .int]) (k : Reps w zs dp) (kc : dp.map D0.code = [.str, .bool, .ints]) (mode : Int) (ht : Tab w) :
    Ret P n_impl_NextRow [.agg ⟨xs⟩, .agg ⟨ys⟩, .agg ⟨zs⟩, .int .i64 mode] w fun v w' => ∃ vs f, v = .tuple #[.agg ⟨vs⟩, .bool (nextT dx dr dp mode).1] /\ Owns w' w.heap.size vs (nextT dx dr dp mode).2 f /\ f.Nodup /\ Ext w w' := by
  have hr := h; have gr := g; have kr := k
  obtain ⟨c, b, ap, an, ac, z, rfl, rfl, ha⟩ := open_Money h hc
  obtain ⟨d0, dp', dn, dc, dz, ds, rfl, rfl, hd⟩ := open_Dec g gc
  obtain ⟨c2, b2, bp, bn, bc, z2, rfl, rfl, hb⟩ := open_Money k kc
  refine impl_NextRow_ret ?_
  unfold impl_NextRow
  intro r w1 hn1 r1 w2 hn2 r2 w3 hn3 r3 w4 hn4
  have e1 := hn1.r_eq; have e2 := hn2.r_eq; have e3 := hn3.r_eq; have e4 := hn4.r_eq; have s1 := hn1.size; have s2 := hn2.size; have s3 := hn3.size; have s4 := hn4.size
  have X := ((hn1.ext.trans hn2.ext).trans hn3.ext).trans hn4.ext
  have q0 := ((hn1.blk.ext hn2.ext).ext hn3.ext).ext hn4.ext; have q1 := (hn2.blk.ext hn3.ext).ext hn4.ext; have q2 := hn3.blk.ext hn4.ext; have q3 := hn4.blk
  generalize hdr : [D0.bool d0, D0.ints dz, D0.int ds] = dr at gr gc ⊢
  have zero : ∀ W, Ext w W -> Blk W r3 T_impl_Row [.string ByteArray.empty, .bool false, .slice none 0 0, .string ByteArray.empty, .bool false, .slice none 0 0, .string ByteArray.empty, .bool false, .slice none 0 0] -> nextT [.str c, .bool b, .ints z] dr [.str c2, .bool b2, .ints z2] mode = (false, row0) -> ∃ W', Stores P T_impl_Row ⟨r3, 0, none⟩ (.agg ⟨[.string ByteArray.empty, .bool false, .slice none 0 0, .string ByteArray.empty, .bool false, .slice none 0 0, .string ByteArray.empty, .bool false, .slice none 0 0]⟩) W W' /\ ∃ (zsx : ByteArray) (zbx : Bool) (zpx : Option Addr) (znx : Nat) (zcx : Nat) (zsy : ByteArray) (zby : Bool) (zpy : Option Addr) (zny : Nat) (zcy : Nat) (zsz : ByteArray) (zbz : Bool) (zpz : Option Addr) (znz : Nat) (zcz : Nat), Loads P T_impl_Row ⟨r3, 0, none⟩ (.agg #[.string zsx, .bool zbx, .slice zpx znx zcx, .string zsy, .bool zby, .slice zpy zny zcy, .string zsz, .bool zbz, .slice zpz znz zcz]) W' /\ (fun (v : Value) (w' : World) => ∃ vs f, v = .tuple #[.agg ⟨vs⟩, .bool (nextT [.str c, .bool b, .ints z] dr [.str c2, .bool b2, .ints z2] mode).1] /\ Owns w' w.heap.size vs (nextT [.str c, .bool b, .ints z] dr [.str c2, .bool b2, .ints z2] mode).2 f /\ f.Nodup /\ Ext w w') (.tuple #[.agg #[.string zsx, .bool zbx, .slice zpx znx zcx, .string zsy, .bool zby, .slice zpy zny zcy, .string zsz, .bool zbz, .slice zpz znz zcz], .bool false]) W' := by
    intro W hW hq hres
    have lW := hW.le
    obtain ⟨W', st', ld', ow', xx', _, _⟩ := agg_end (t := T_impl_Row) hq hW (by omega) (own_row0 W (r3 + 1)) (by kernel_rfl) rfl (by omega) (by omega)
    rw [hres]
    exact ⟨W', st', _, _, _, _, _, _, _, _, _, _, _, _, _, _, _, ld', _, [], rfl, ow', List.nodup_nil, xx'⟩
  refine ⟨_, _, _, _, _, q0.loadA0 (by kernel_rfl), _, _, _, _, _, q2.loadA0 (by kernel_rfl), ?_⟩
  refine Ret.at (impl_alike_c (hr.ext X) (kr.ext X) (ht.ext X)) ?_
  rintro v w5 ⟨hv, y5⟩
  subst hv
  have l5 := y5.le
  have X5 := X.trans y5
  have q0 := q0.ext y5; have q1 := q1.ext y5; have q2 := q2.ext y5; have q3 := q3.ext y5
  have bad : nextT [.str c, .bool b, .ints z] dr [.str c2, .bool b2, .ints z2] mode ≠ (false, row0) -> alk [.str c, .bool b, .ints z] [.str c2, .bool b2, .ints z2] = true /\ b = false /\ b2 = false := by
    intro hne
    rcases hq : (alk [.str c, .bool b, .ints z] [.str c2, .bool b2, .ints z2] && (!b && !b2)) with _ | _
    · exact absurd (by simp only [nextT, hq, Bool.false_and, Bool.false_eq_true, if_false]) hne
    · simpa using hq
  refine ⟨_, rfl, ifN (fun hno => ifT (ifT (zero _ X5 q3 (Classical.byContradiction fun hne => by have := (bad hne).1; rw [hno] at this; cases this)))) (fun hal => ⟨_, q0.loadAt 1 rfl (by kernel_rfl) rfl, fun hb1 => ifT (zero _ X5 q3 (Classical.byContradiction fun hne => by have := (bad hne).2.1; rw [hb1] at this; cases this)), fun hb1 => ⟨_, q2.loadAt 1 rfl (by kernel_rfl) rfl, fun hb2 => zero _ X5 q3 (Classical.byContradiction fun hne => by have := (bad hne).2.2; rw [hb2] at this; cases this), fun hb2 => ?_⟩⟩)⟩
  obtain ⟨m1, m2, rfl⟩ := alk_parts hal
  subst hb1; subst hb2
  obtain ⟨En, _⟩ := intOk_enc (moneyOk_int m1); obtain ⟨Ep, _⟩ := intOk_enc (moneyOk_int m2)
  have hcomp : nextT [.str c, .bool false, .ints z] dr [.str c, .bool false, .ints z2] mode = if (taxOnT [.str c, .bool false, .ints z] dr mode).1 && moneyOk (.str c :: enc (ival [.bool false, .ints z] + moneyVal (taxOnT [.str c, .bool false, .ints z] dr mode).2.1)) then
      (true, rowOf c (moneyVal (taxOnT [.str c, .bool false, .ints z] dr mode).2.1) (lesser (ival [.bool false, .ints z] + moneyVal (taxOnT [.str c, .bool false, .ints z] dr mode).2.1) (ival [.bool false, .ints z2])) (ival [.bool false, .ints z] + moneyVal (taxOnT [.str c, .bool false, .ints z] dr mode).2.1 - lesser (ival [.bool false, .ints z] + moneyVal (taxOnT [.str c, .bool false, .ints z] dr mode).2.1) (ival [.bool false, .ints z2])))
    else (false, row0) := by
    simp only [nextT, hal, Bool.not_false, Bool.true_and, Bool.and_self]
  have En0 : 0 <= ival [.bool false, .ints z] := by
    obtain ⟨_, b', z', he, hcan, _⟩ := intOk_enc (moneyOk_int m1)
    simp only [List.cons.injEq, D0.bool.injEq, D0.ints.injEq, and_true] at he
    obtain ⟨rfl, rfl⟩ := he
    exact val_nonneg hcan.1
  have Ep0 : 0 <= ival [.bool false, .ints z2] := by
    obtain ⟨_, b', z', he, hcan, _⟩ := intOk_enc (moneyOk_int m2)
    simp only [List.cons.injEq, D0.bool.injEq, D0.ints.injEq, and_true] at he
    obtain ⟨rfl, rfl⟩ := he
    exact val_nonneg hcan.1
  have Mn : moneyOk (.str c :: enc (ival [.bool false, .ints z])) = true := by rw [<- En]; exact m1
  have Mp : moneyOk (.str c :: enc (ival [.bool false, .ints z2])) = true := by rw [<- Ep]; exact m2
  have hl : Reps w5 [.string c, .bool false, .slice ap an ac] (.str c :: enc (ival [.bool false, .ints z])) := by rw [<- En]; exact hr.ext X5
  have hp : Reps w5 [.string c, .bool false, .slice bp bn bc] (.str c :: enc (ival [.bool false, .ints z2])) := by rw [<- Ep]; exact kr.ext X5
  unfold impl_NextRow_j0
  refine ⟨_, _, _, _, _, q0.loadA0 (by kernel_rfl), _, _, _, _, _, q1.loadA0 (by kernel_rfl), ?_⟩
  refine Ret.at (impl_TaxOn_o (hr.ext X5) (gr.ext X5) rfl gc mode (ht.ext X5)) ?_
  have hno := @taxOnT_no [.str c, .bool false, .ints z] dr mode
  have hyes := @taxOnT_yes c false z dr mode
  have hfacts := taxOnT_facts [.str c, .bool false, .ints z] dr mode
  generalize taxOnT [.str c, .bool false, .ints z] dr mode = T at hno hyes hfacts hcomp
  rintro v w6 ⟨vs0, f0, vs1, f1, hv, o0, nd0, o1, _, _, y6⟩
  subst hv
  have l6 := y6.le
  obtain ⟨i0, i1, ip, in_, ic, iz, rfl, hT, _⟩ := open_Money o0.reps hfacts.1
  obtain ⟨u0, up, un, uc, uz, up2, un2, uc2, uz2, rfl, _, _, _⟩ := open_Rat o1.reps hfacts.2.2.1
  refine ⟨_, _, _, _, _, _, _, _, _, _, _, _, _, rfl, ?_⟩
  intro r4 w7 hn7 r5 w8 hn8
  have e7 := hn7.r_eq; have e8 := hn8.r_eq; have s7 := hn7.size; have s8 := hn8.size
  obtain ⟨w9, st9, b4, ch9, z9⟩ := (hn7.blk.ext hn8.ext).storeA0 (P := P) (t := T_impl_Money) (xs := [.string i0, .bool i1, .slice ip in_ ic]) (by kernel_rfl) rfl o0.reps.cells1
  obtain ⟨w10, st10, b5, ch10, z10⟩ := (hn8.blk.chg ch9 (by simp; omega)).storeA0 (P := P) (t := T_impl_Rat) (xs := [.bool u0, .slice up un uc, .slice up2 un2 uc2]) (by kernel_rfl) rfl o1.reps.cells1
  have Y10 : Ext w6 w10 := ((hn7.ext.trans hn8.ext).chg ch9 (by simp; omega)).chg ch10 (by simp; omega)
  have Y := y6.trans Y10
  have b4 := b4.chg ch10 (by simp; omega)
  have X10 := X5.trans Y
  have q0 := q0.ext Y; have q2 := q2.ext Y; have q3 := q3.ext Y
  have oi := o0.ext Y10
  have lY := Y.le
  refine ⟨w9, st9, w10, st10, ?_⟩
  refine ifN (fun hno1 => zero _ X10 q3 (by rw [hcomp]; simp only [hno1, Bool.false_and, Bool.and_false, Bool.false_eq_true, if_false])) (fun hyes1 => ?_)
  obtain ⟨EI, MI, hi0⟩ := hyes hyes1 rfl
  rw [EI] at oi
  generalize moneyVal T.2.1 = i at EI MI hi0 hcomp oi
  refine ⟨_, _, _, _, _, q0.loadA0 (by kernel_rfl), _, _, _, _, _, b4.loadA0 (by kernel_rfl), ?_⟩
  refine Ret.at (impl_MoneyAdd_e (hl.ext Y) oi.reps Mn MI (ht.ext X10)) ?_
  generalize ival [.bool false, .ints z] = N at hcomp Mn hl En0
  generalize ival [.bool false, .ints z2] = Q at hcomp Mp hp Ep0
  rintro v w11 ⟨vs2, f2, hv, o2, nd2, y11⟩
  subst hv
  have l11 := y11.le
  obtain ⟨m0, m1', mp, mn, mc, mz, rfl, _, _⟩ := open_Money o2.reps (moneyMk_code _ _)
  refine ⟨_, _, _, _, _, _, rfl, ?_⟩
  intro r6 w12 hn12
  have e12 := hn12.r_eq; have s12 := hn12.size
  obtain ⟨w13, st13, b6, y13⟩ := hn12.fill (P := P) (t := T_impl_Money) o2.reps.cells1 (by kernel_rfl) rfl
  have l13 := y13.le; have lb6 := b6.lt
  have Y13 := y11.trans y13
  have lY13 := Y13.le
  have X13 := X10.trans Y13
  have q2 := q2.ext Y13; have q3 := q3.ext Y13; have b4 := b4.ext Y13
  have oi := oi.ext Y13
  refine ⟨w13, st13, ifN (fun hno2 => zero _ X13 q3 (by rw [hcomp]; simp only [hno2, Bool.false_and, Bool.and_false, Bool.false_eq_true, if_false])) (fun hyes2 => ?_)⟩
  have hmk : moneyMk c (N + i) = .str c :: enc (N + i) := by rw [moneyMk, if_pos hyes2]
  rw [hmk] at o2
  have od := o2.ext y13
  have hp := hp.ext (Y.trans Y13)
  have hcomp : nextT [.str c, .bool false, .ints z] dr [.str c, .bool false, .ints z2] mode = (true, rowOf c i (lesser (N + i) Q) (N + i - lesser (N + i) Q)) := by
    rw [hcomp, hyes1, hyes2]; rfl
  rw [hcomp]
  have LD := money_lim hyes2; have LP := money_lim Mp
  have DD := money_len hyes2; have DP := money_len Mp
  refine ⟨_, _, _, _, b6.loadAAt 1 [.bool m1', .slice mp mn mc] rfl (by kernel_rfl) rfl, _, _, _, _, q2.loadAAt 1 [.bool false, .slice bp bn bc] rfl (by kernel_rfl) rfl, ?_⟩
  refine Ret.at (impl_intCmp_c od.reps.2 hp.2 (by omega) (by omega)) ?_
  rintro v w14 ⟨hv, y14⟩
  subst hv
  have l14 := y14.le
  have X14 := X13.trans y14
  have q2 := q2.ext y14; have q3 := q3.ext y14; have b4 := b4.ext y14; have b6 := b6.ext y14
  have oi := oi.ext y14; have od := od.ext y14; have hp := hp.ext y14
  refine ⟨_, rfl, ifD (fun hlt => ?_) (fun hge => ?_)⟩
  · have hlt' : N + i < Q := by have := sgn_neg.1 hlt; omega
    rw [lesser_lt hlt']
    obtain ⟨w15, st15, b2', ch15, z15⟩ := q2.storeA0 (P := P) (t := T_impl_Money) (xs := [.string m0, .bool m1', .slice mp mn mc]) (by kernel_rfl) rfl od.reps.cells1
    refine ⟨_, _, _, _, _, b6.loadA0 (by kernel_rfl), w15, st15, ?_⟩
    have X15 := X14.chg ch15 (by simp; omega)
    have od' := od.chg1 ch15 (by omega)
    exact impl_NextRow_j1_n X15 b2' (q3.chg ch15 (by simp; omega)) (b4.chg ch15 (by simp; omega)) (b6.chg ch15 (by simp; omega)) (oi.chg1 ch15 (by omega)) nd0 od'.reps od'.reps hyes2 hyes2 (money_less hyes2 (by omega)) (by omega) (by omega) (by omega) (by omega) (ht.ext X15)
  · have hge' : ¬ N + i < Q := by have := mt sgn_neg.2 hge; omega
    rw [lesser_ge hge']
    exact impl_NextRow_j1_n X14 q2 q3 b4 b6 oi nd0 od.reps hp hyes2 Mp (money_less hyes2 (by omega)) (by omega) (by omega) (by omega) (by omega) (ht.ext X14)
theorem rowOf_code (c : ByteArray) (i p l : Int) : (rowOf c i p l).map D0.code = [.str, .bool, .ints, .str, .bool, .ints, .str, .bool, .ints] := rfl
theorem nextT_code (dx dr dp : List D0) (m : Int) : (nextT dx dr dp m).2.map D0.code = [.str, .bool, .ints, .str, .bool, .ints, .str, .bool, .ints] := by
  unfold nextT
  split
  · split
    · exact rowOf_code _ _ _ _
    · rfl
  · rfl
theorem nextT_cnt (dx dr dp : List D0) (m : Int) : tcnts (nextT dx dr dp m).2 <= 1000000000 := by
  unfold nextT
  split
  · split
    · rename_i c b z c2 b2 z2 h
      simp only [Bool.and_eq_true, Bool.not_eq_true'] at h
      obtain ⟨⟨hal, hb, hb2⟩, ht, hm⟩ := h
      have h1 := (taxOnT_yes ht hb).2.1
      obtain ⟨m1, m2, _⟩ := alk_parts hal
      have h1 := money_len h1; have h3 := money_len hm
      have g2 : (digs (ival [.bool b2, .ints z2]).natAbs).length <= 4 := by
        have := (intOk_enc (moneyOk_int m2)).1
        have hh := m2
        rw [this] at hh
        exact money_len hh
      have LD := money_lim hm
      have LQ := money_bound m2
      subst hb2
      generalize ival [.bool b, .ints z] + moneyVal (taxOnT [.str c, .bool b, .ints z] dr m).2.1 = N at *
      generalize ival [.bool false, .ints z2] = Q at *
      have hs : (digs (lesser N Q).natAbs).length <= 6 /\ (digs (N - lesser N Q).natAbs).length <= 6 := by
        unfold lesser
        split <;> exact ⟨digs_len_le (by omega), digs_len_le (by omega)⟩
      show tcnts (rowOf _ _ _ _) <= _
      simp only [rowOf, enc, tcnts, List.cons_append, List.nil_append]
      omega
    · decide
  · decide
theorem impl_NextRow_c {w : World} {xs ys zs : List Value} {dx dr dp : List D0} (h : Reps w xs dx) (hc : dx.map D0.code = [.str, .bool, .ints]) (g : Reps w ys dr) (gc : dr.map D0.code = [.bool, .ints, .int]) (k : Reps w zs dp) (kc : dp.map D0.code = [.str, .bool, .ints]) (mode : Int) (ht : Tab w) :
    Ret P n_impl_NextRow [.agg ⟨xs⟩, .agg ⟨ys⟩, .agg ⟨zs⟩, .int .i64 mode] w fun v w' => ∃ vs f, v = .tuple #[.agg ⟨vs⟩, .bool (nextT dx dr dp mode).1] /\ Owns w' w.heap.size vs (nextT dx dr dp mode).2 f /\ f.Nodup /\ (nextT dx dr dp mode).2.map D0.code = [.str, .bool, .ints, .str, .bool, .ints, .str, .bool, .ints] /\ tcnts (nextT dx dr dp mode).2 <= 1000000000 /\ Ext w w' :=
  (impl_NextRow_o h hc g gc k kc mode ht).mono fun v w' ⟨vs, f, hv, ho, hn, hx⟩ => ⟨vs, f, hv, ho, hn, nextT_code dx dr dp mode, nextT_cnt dx dr dp mode, hx⟩
end Go.Proofs.YtbgokfhcgcoipaaDoor
namespace Go.Proofs.YtbgokfhcgcoipaaDoor
open Go Go.Proofs.YtbgokfhcgcoipaaDoor.Sx
def planDone (l : List (List D0)) : Bool := match l.getLast? with
  | some x => intOk (x.drop 7) && decide (isign (x.drop 7) = 0)
  | none => false
theorem rowLast {w : World} {p : Option Addr} {n c : Nat} {l : List (List D0)} (h : RowsR w 9 p n c l) (hc : ∀ x ∈ l, x.map D0.code = [.str, .bool, .ints, .str, .bool, .ints, .str, .bool, .ints]) (hn : 0 < n) :
    ∃ b o s0 b0 p2 n2 c2 z2, p = some ⟨b, o, none⟩ /\ IntsR w p2 n2 c2 z2 /\ (l.getLast?.map fun x => x.drop 6) = some [.str s0, .bool b0, .ints z2] /\ Seg w b (o + (n - 1) * 9 + 6) [.string s0, .bool b0, .slice p2 n2 c2] := by
  have hz := h.1
  obtain ⟨b, o, hp, hs⟩ := h.2.2.2 hn
  have hi : n - 1 < l.length := by omega
  obtain ⟨cs, hk, hr, hseg⟩ := hs (n - 1) l[n - 1] (List.getElem?_eq_getElem hi)
  obtain ⟨a0, a1, a2p, a2n, a2c, a2z, a3, a4, a5p, a5n, a5c, a5z, a6, a7, a8p, a8n, a8c, a8z, rfl, hd, h2, h5, h8⟩ := open_Row hr (hc _ (List.getElem_mem hi))
  refine ⟨b, o, a6, a7, a8p, a8n, a8c, a8z, hp, h8, ?_, hseg.drop 6⟩
  rw [List.getLast?_eq_getElem?, show l.length - 1 = n - 1 by omega, List.getElem?_eq_getElem hi, hd]
  rfl
theorem planDone_eq {l : List (List D0)} {s : ByteArray} {b : Bool} {z : List Int} (h : (l.getLast?.map fun x => x.drop 6) = some [.str s, .bool b, .ints z]) : planDone l = (intOk [.bool b, .ints z] && decide (isign [.bool b, .ints z] = 0)) := by
  unfold planDone
  cases hl : l.getLast? with
  | none => rw [hl] at h; cases h
  | some x =>
    rw [hl] at h
    simp only [Option.map_some, Option.some.injEq] at h
    have : x.drop 7 = [.bool b, .ints z] := by
      have := congrArg (List.drop 1) h
      simpa using this
    simp only [this]
theorem impl_isZero_c {w : World} {xs : List Value} {s : ByteArray} {b : Bool} {z : List Int} (h : Reps w xs [.str s, .bool b, .ints z]) :
    Ret P n_impl_isZero [.agg ⟨xs⟩] w fun v w' => v = .bool (intOk [.bool b, .ints z] && decide (isign [.bool b, .ints z] = 0)) /\ Ext w w' := by
  obtain ⟨a0, a1, a2p, a2n, a2c, a2z, rfl, hd, ha⟩ := open_Money h rfl
  cases hd
  refine impl_isZero_ret ?_
  unfold impl_isZero
  intro r w1 hn
  refine ⟨_, _, _, _, hn.blk.loadAAt 1 [.bool b, .slice a2p a2n a2c] rfl (by kernel_rfl) rfl, ?_⟩
  refine Ret.at (impl_IntOk_c (dx := [.bool b, .ints z]) ⟨rfl, ⟨_, _, _, rfl, ha.ext hn.ext⟩, trivial⟩ rfl) ?_
  rintro v w2 ⟨hv, y⟩
  subst hv
  have x := hn.ext.trans y
  refine ⟨_, rfl, fun e => ⟨_, _, _, (hn.blk.ext y).loadAt 2 rfl (by kernel_rfl) rfl, ?_, x⟩, fun e => ⟨by rw [e]; rfl, x⟩⟩
  rw [e]
  congr 1
  have hl := ha.1
  simp only [Bool.true_and, isign, e]
  cases z with
  | nil => simp at hl; simp [<- hl]
  | cons q qs =>
    simp at hl
    cases b <;> simp [<- hl] <;> omega
theorem impl_PlanDone_c {w : World} {p : Option Addr} {n c : Nat} {l : List (List D0)} (h : RowsR w 9 p n c l) (hc : ∀ x ∈ l, x.map D0.code = [.str, .bool, .ints, .str, .bool, .ints, .str, .bool, .ints]) :
    Ret P n_impl_PlanDone [.slice p n c] w fun v w' => v = .bool (planDone l) /\ Ext w w' := by
  refine impl_PlanDone_ret ?_
  unfold impl_PlanDone
  have hz := h.1; have hcap := h.2.1; have hcm := h.2.2.1
  refine ifD (fun hpos => ?_) (fun h0 => ⟨?_, Ext.refl _⟩)
  · obtain ⟨b, o, s0, b0, p2, n2, c2, z2, rfl, hi, hlast, hseg⟩ := rowLast h hc (by omega)
    have e : ((n : Int) - 1).toNat = n - 1 := by omega
    have ea : (((⟨b, o, none⟩ : Addr).add (((n : Int) - 1).toNat * 9)).add 6) = ⟨b, (o + (n - 1) * 9 + 6) + 0, none⟩ := by rw [addr_add, addr_add, e]
    refine exW ⟨by omega, by omega⟩ ⟨⟨by omega, by omega⟩, _, _, _, _, _, hseg.loadAAt 0 [.string s0, .bool b0, .slice p2 n2 c2] ea (by kernel_rfl) rfl, ?_⟩
    refine Ret.at (impl_isZero_c (s := s0) (b := b0) (z := z2) ⟨rfl, rfl, ⟨_, _, _, rfl, hi⟩, trivial⟩) ?_
    rintro v w1 ⟨hv, y⟩
    subst hv
    exact ⟨_, rfl, by rw [planDone_eq hlast], y⟩
  · have : l = [] := List.eq_nil_of_length_eq_zero (by omega)
    subst this; rfl
end Go.Proofs.YtbgokfhcgcoipaaDoor
namespace Go.Proofs.YtbgokfhcgcoipaaDoor
open Go Go.Proofs.YtbgokfhcgcoipaaDoor.Sx
theorem OwnRows_pushG {P : Program} {w : World} {B : Nat} {t e : TypeId} {z : Value} {k bytes : Nat} {p : Option Addr} {n c r : Nat} {l : List (List D0)} {f fx : List Nat} {cs : List Value} {x : List D0} (h : OwnRows w B e k p n c l f)
    (hT : sliceT P t e z k bytes) (hb : B <= w.heap.size) (hr : Blk w r e cs) (hl : cs.length = k) (ho : Owns w B cs x fx) (hfx : fx.Nodup) (hdis : ∀ q ∈ fx, q ∉ f)
    (hbytes : (n + 1) * bytes <= 140737488355328) (hby : 1 <= bytes) :
    ∃ p' c' w' f', Appends P [t, t] [.slice p n c, .slice (some ⟨r, 0, none⟩) 1 1] (.slice p' (n + 1) c') w w' /\ OwnRows w' B e k p' (n + 1) c' (l ++ [x]) f' /\ Chg (p.map (·.block)).toList w w' /\
      (∀ q ∈ f', q ∈ f ∨ q ∈ fx ∨ w.heap.size <= q) /\ (p'.map (·.block) = p.map (·.block) ∨ ∀ q, p'.map (·.block) = some q -> w.heap.size <= q) := by
  obtain ⟨hln, css, fs, ha, hown, rfl, hnd⟩ := h
  obtain ⟨p', c', w', hrun, hown', hch, hp⟩ := hown.push1 hT hb hr hl ho.reps.cells1 hbytes hby
  have hpl : ∀ q ∈ (p.map (·.block)).toList, B <= q := fun q hq => (World.ownsRow.lt hown q (by cases p <;> simp_all [Value.ownBlock])).1
  have hnd1 := (List.nodup_append.1 hnd)
  have hpin : ∀ q ∈ fs.flatten, q ∉ (p.map (·.block)).toList := fun q hq hm => hnd1.2.2 q hm q hq rfl
  have hpx : ∀ q ∈ fx, q ∉ (p.map (·.block)).toList := fun q hq hm => hdis q hq (List.mem_append_left _ hm)
  have hlt : ∀ q ∈ fs.flatten ++ fx, q < w.heap.size := fun q hq => by
    rcases List.mem_append.1 hq with hq | hq
    · exact (ha.lt q hq).2
    · exact (ho.lt q hq).2
  have e : (fs ++ [fx]).flatten = fs.flatten ++ fx := by simp
  refine ⟨p', c', w', (p'.map (·.block)).toList ++ (fs ++ [fx]).flatten, hrun, ⟨by simp [hln], css ++ [cs], fs ++ [fx], (ha.chg hch hpin).snoc hl (ho.chg hch hpx), by simpa using hown', rfl, ?_⟩, hch, fun q hq => ?_, hp⟩
  rotate_left
  · rw [e] at hq
    rcases List.mem_append.1 hq with hq | hq
    · have hpa := opt_mem hq
      rcases hp with hp | hp
      · rw [hp] at hpa
        exact .inl (List.mem_append_left _ (mem_opt hpa))
      · exact .inr (.inr (hp q hpa))
    · rcases List.mem_append.1 hq with hq | hq
      · exact .inl (List.mem_append_right _ hq)
      · exact .inr (.inl hq)
  rw [e, List.nodup_append]
  refine ⟨by cases p' <;> simp, ?_, ?_⟩
  · rw [List.nodup_append]
    exact ⟨hnd1.2.1, hfx, fun a ha b hb e => hdis b hb (by rw [<- e]; exact List.mem_append_right _ ha)⟩
  · intro a ha b hb hab
    subst hab
    have hpa := opt_mem ha
    rcases hp with hp | hp
    · rw [hp] at hpa
      have ham : a ∈ (p.map (·.block)).toList := mem_opt hpa
      rcases List.mem_append.1 hb with hb | hb
      · exact hpin a hb ham
      · exact hpx a hb ham
    · have := hp a hpa
      have := hlt a hb
      omega
theorem OwnRows_pushF {P : Program} {w : World} {B : Nat} {t e : TypeId} {z : Value} {k bytes : Nat} {p : Option Addr} {n c r : Nat} {l : List (List D0)} {f fx : List Nat} {cs : List Value} {x : List D0} (h : OwnRows w B e k p n c l f)
    (hT : sliceT P t e z k bytes) (hb : B <= w.heap.size) (hr : Blk w r e cs) (hl : cs.length = k) (ho : Owns w B cs x fx) (hfx : fx.Nodup) (hdis : ∀ q ∈ fx, q ∉ f)
    (hbytes : (n + 1) * bytes <= 140737488355328) (hby : 1 <= bytes) :
    ∃ p' c' w' f', Appends P [t, t] [.slice p n c, .slice (some ⟨r, 0, none⟩) 1 1] (.slice p' (n + 1) c') w w' /\ OwnRows w' B e k p' (n + 1) c' (l ++ [x]) f' /\ Chg (p.map (·.block)).toList w w' /\
      (∀ q ∈ f', q ∈ f ∨ q ∈ fx ∨ w.heap.size <= q) := by
  obtain ⟨p', c', w', f', h1, h2, h3, h4, _⟩ := OwnRows_pushG h hT hb hr hl ho hfx hdis hbytes hby
  exact ⟨p', c', w', f', h1, h2, h3, h4⟩
end Go.Proofs.YtbgokfhcgcoipaaDoor
namespace Go.Proofs.YtbgokfhcgcoipaaDoor.Sx
open Go Go.RowKit Go.Conc
def wpB (P : Program) (c : Code) (Q : Exit -> Act -> World -> Prop) (a : Act) (w : World) : Prop :=
 ∀ b : Frame, b.kind ≠ .early -> ∀ (k : List Item) (cs : List Frame), ∃ e a' w', Q e a' w' /\ Arrives P (lone (b.at a (.code c :: k)) cs w) b k cs e a' w'
def wpR (P : Program) (ops : Array Oper) (l : List Nat) (Q : Exit -> Act -> World -> Prop) (a : Act) (w : World) : Prop :=
 ∀ b : Frame, b.kind ≠ .early -> ∀ (k : List Item) (cs : List Frame), ∃ e a' w', Q e a' w' /\ Arrives P (lone (b.at a (.inRegion ops l :: k)) cs w) b k cs e a' w'
section
variable {P : Program} {Q : Exit -> Act -> World -> Prop} {a : Act} {w : World}
theorem wpB_of_wp {c : Code} (h : c.wp P Q a w) : wpB P c Q a w := fun b _ k cs => h b k cs
theorem wpB_mono {c : Code} {Q' : Exit -> Act -> World -> Prop} (h : wpB P c Q a w) (hq : ∀ e a w, Q e a w -> Q' e a w) : wpB P c Q' a w :=
  fun b hb k cs => let ⟨e, a', w', q, r⟩ := h b hb k cs; ⟨e, a', w', hq _ _ _ q, r⟩
theorem wpB_seq {x y : Code} (h : wpB P x (Exit.then (wpB P y Q) Q) a w) : wpB P (.seq x y) Q a w := by
  intro b hb k cs
  obtain ⟨e, a1, w1, hq, har⟩ := h b hb (.code y :: k) cs
  have st := step_seq (P := P) (b := b) (a := a) (k := k) (cs := cs) (w := w) (x := x) (y := y)
  by_cases he : e = .normal
  · subst he
    obtain ⟨e2, a2, w2, hq2, h2⟩ := hq b hb k cs
    exact ⟨e2, a2, w2, hq2, .of_steps (.head st har) h2⟩
  · refine ⟨e, a1, w1, ?_, .of_steps (.one st) (.pass (x := .code y) rfl (fun _ _ => .inl he) har)⟩
    cases e <;> first | exact absurd rfl he | exact hq
theorem wpB_cond {c : Operand} {x y : Code} {t : Bool} (hc : a.eval c = .bool t) (ht : t = true -> wpB P x Q a w) (hf : t = false -> wpB P y Q a w) : wpB P (.cond c x y) Q a w := by
  intro b hb k cs
  have st := step_cond (P := P) (b := b) (k := k) (cs := cs) (w := w) (x := x) (y := y) hc
  cases t with
  | true => obtain ⟨e, a1, w1, hq, har⟩ := ht rfl b hb k cs; exact ⟨e, a1, w1, hq, .of_steps (.one st) har⟩
  | false => obtain ⟨e, a1, w1, hq, har⟩ := hf rfl b hb k cs; exact ⟨e, a1, w1, hq, .of_steps (.one st) har⟩
theorem wpB_block {id : Nat} {c : Code} (h : wpB P c (Exit.inBlock id Q) a w) : wpB P (.block id c) Q a w := by
  intro b hb k cs
  obtain ⟨e, a1, w1, hq, har⟩ := h b hb (.inBlock id :: k) cs
  have st := step_block (P := P) (b := b) (a := a) (k := k) (cs := cs) (w := w) (id := id) (c := c)
  cases e with
  | normal => exact ⟨.normal, a1, w1, hq, .head st (Steps.trans har (.one step_inBlock))⟩
  | exit id' =>
    simp only [Exit.inBlock] at hq
    by_cases hid : id' = id
    · rw [if_pos hid] at hq
      exact ⟨.normal, a1, w1, hq, .head st (har k (by simp [exitTo, hid]))⟩
    · rw [if_neg hid] at hq
      have hne : (id == id') = false := by
        rw [beq_eq_false_iff_ne]; exact fun e => hid e.symm
      exact ⟨.exit id', a1, w1, hq, fun k' hk => .head st (har k' (by simp [exitTo, hne, hk]))⟩
  | goto l => exact ⟨.goto l, a1, w1, hq, fun k' hk => .head st (har k' (by simp [gotoIn, hk]))⟩
  | ret => exact ⟨.ret, a1, w1, hq, .of_steps (.one st) har⟩
  | panic ch => exact ⟨.panic ch, a1, w1, hq, .of_steps (.one st) har⟩
  | outgrown => exact ⟨.outgrown, a1, w1, hq, .of_steps (b := b) (k := k) (cs := cs) (e := .outgrown) (.one st) har⟩
theorem wpB_scope {c : Code} (h : wpB P c (Exit.noGoto Q) a w) : wpB P (.scope c) Q a w := by
  intro b hb k cs
  obtain ⟨e, a1, w1, hq, har⟩ := h b hb (.inScope c :: k) cs
  have st := step_scope (P := P) (b := b) (a := a) (k := k) (cs := cs) (w := w) (c := c)
  cases e with
  | normal => exact ⟨.normal, a1, w1, hq, .head st (Steps.trans har (.one step_inScope))⟩
  | exit id => exact ⟨.exit id, a1, w1, hq, fun k' hk => .head st (har k' (by simp [exitTo, hk]))⟩
  | goto l => exact hq.elim
  | ret => exact ⟨.ret, a1, w1, hq, .of_steps (.one st) har⟩
  | panic ch => exact ⟨.panic ch, a1, w1, hq, .of_steps (.one st) har⟩
  | outgrown => exact ⟨.outgrown, a1, w1, hq, .of_steps (b := b) (k := k) (cs := cs) (e := .outgrown) (.one st) har⟩
theorem wpB_loop {c : Code} (I : Act -> World -> Prop) (μ : Act -> World -> Nat) (h0 : I a w)
    (round : ∀ a w, I a w -> wpB P c (Exit.then (fun a' w' => I a' w' /\ μ a' w' < μ a w) Q) a w) : wpB P (.loop c) Q a w := by
  intro b hb k cs
  have key : ∀ n a w, μ a w < n -> I a w -> ∃ e a' w', Q e a' w' /\ Arrives P (lone (b.at a (.code c :: .inLoop c :: k)) cs w) b k cs e a' w' := by
    intro n
    induction n with
    | zero => intro a w h; omega
    | succ n ih =>
      intro a w hn hI
      obtain ⟨e, a1, w1, hq, har⟩ := round a w hI b hb (.inLoop c :: k) cs
      by_cases he : e = .normal
      · subst he
        obtain ⟨e2, a2, w2, hq2, h2⟩ := ih a1 w1 (by have := hq.2; omega) hq.1
        exact ⟨e2, a2, w2, hq2, .of_steps (Steps.trans har (.one step_inLoop)) h2⟩
      · refine ⟨e, a1, w1, ?_, .pass (x := .inLoop c) rfl (fun _ _ => .inl he) har⟩
        cases e <;> first | exact absurd rfl he | exact hq
  obtain ⟨e, a', w', hq, h⟩ := key _ a w (Nat.lt_succ_self _) h0
  exact ⟨e, a', w', hq, .of_steps (.one step_loop) h⟩
theorem wpB_region {id : Nat} {ops : Array Oper} (h : wpR P ops (List.range ops.size) Q a w) : wpB P (.region id ops false) Q a w :=
  fun b hb k cs => let ⟨e, a', w', q, r⟩ := h b hb k cs; ⟨e, a', w', q, .of_steps (.one step_region) r⟩
theorem wpR_nil {ops : Array Oper} (h : Q .normal a w) : wpR P ops [] Q a w := fun b hb k cs => ⟨.normal, a, w, h, .one step_region_end⟩
theorem wpR_skip {ops : Array Oper} {i : Nat} {rest : List Nat} {o : Oper} (ho : ops[i]? = some o) (hw : Region.wanted o (yielded ops a.tmps) = false) (h : wpR P ops rest Q (a.put o.dst undef) w) : wpR P ops (i :: rest) Q a w := by
  intro b hb k cs
  obtain ⟨e, a', w', q, r⟩ := h b hb k cs
  have st := step_op_skip (P := P) (b := b) (a := a) (k := k) (cs := cs) (w := w) (ops := ops) (i := i) (rest := rest) (by rw [ho]; simpa using hw)
  rw [ho] at st
  exact ⟨e, a', w', q, .of_steps (.one st) r⟩
theorem fin_at {b : Frame} {ops : Array Oper} {i : Nat} {rest : List Nat} {k : List Item} {o : Oper} (ho : ops[i]? = some o) (v : Value) : (b.at a (.inRegion ops (i :: rest) :: k)).finish v = b.at (a.put o.dst v) (.inRegion ops rest :: k) := by
  rw [Frame.finish_at, ho]; rfl
theorem wpR_goes {N : Nat} {φ : Fr} {ops : Array Oper} {i : Nat} {rest : List Nat} {o : Oper} (hf : Fits N φ a) (ho : ops[i]? = some o) (hw : Region.wanted o (yielded ops a.tmps) = true)
    (h : Goes P φ o w fun v w' => wpR P ops rest Q (a.put o.dst v) w') : wpR P ops (i :: rest) Q a w := by
  intro b hb k cs
  have hg := stepG_op (P := P) (b := b) (a := a) (k := k) (cs := cs) (w := w) (rest := rest) ho hw
  rw [hf.eval] at hg
  have done : ∀ v w', wpR P ops rest Q (a.put o.dst v) w' -> step P (lone (b.at a (.inRegion ops (i :: rest) :: k)) cs w) = .next (lone (b.at (a.put o.dst v) (.inRegion ops rest :: k)) cs w') ->
      ∃ e a' w2, Q e a' w2 /\ Arrives P (lone (b.at a (.inRegion ops (i :: rest) :: k)) cs w) b k cs e a' w2 := by
    intro v w' hk st
    obtain ⟨e, a', w2, q, r⟩ := hk b hb k cs
    exact ⟨e, a', w2, q, .of_steps (.one st) r⟩
  cases h with
  | value v w' hr hk =>
    refine done v w' hk (step_lone_go ?_)
    rw [hg, <- fin_at ho]; simp [stepG.apply, hr]
  | skip w' hr hk =>
    refine done undef w' hk (step_lone_go ?_)
    rw [hg, <- fin_at ho]; simp [stepG.apply, hr]
  | enter g args hr hk =>
    obtain ⟨e, w2, fr, ⟨v, rfl, hR⟩, hsteps, _, hleave⟩ := hk (b.at a (.inRegion ops (i :: rest) :: k) :: cs)
    have henter : step P (lone (b.at a (.inRegion ops (i :: rest) :: k)) cs w) = .next (lone (Frame.enter P g args .normal) (b.at a (.inRegion ops (i :: rest) :: k) :: cs) w) :=
      step_lone_go (by rw [hg]; simp [stepG.apply, hr, Frame.at])
    obtain ⟨e, a', w3, q, r⟩ := hR b hb k cs
    refine ⟨e, a', w3, q, .of_steps (.head henter (Steps.trans hsteps (.one ?_))) r⟩
    rw [<- fin_at ho]; exact step_leave_returned hleave
def Sends (ch x : Value) (w w' : World) : Prop :=
 ∃ c cap buf s r tm, ch = .chan (some c) /\ w.heap[c]? = some (.chan cap buf false s r tm) /\ buf.size < cap /\ w' = w.setChan c cap (buf.push x) false (s + 1) r tm
def Recvs (ch z : Value) (ok : Bool) (v : Value) (w w' : World) : Prop :=
 ∃ c, ch = .chan (some c) /\ ((∃ cap buf closed s r tm, w.heap[c]? = some (.chan cap buf closed s r tm) /\ 0 < buf.size /\ v = got ok (buf.getD 0 undef) true /\ w' = w.setChan c cap (buf.extract 1 buf.size) closed s (r + 1) tm) ∨
 ∃ cap s r tm, w.heap[c]? = some (.chan cap #[] true s r tm) /\ v = got ok z false /\ w' = w)
def Closes (ch : Value) (w w' : World) : Prop :=
 ∃ c cap buf s r tm, ch = .chan (some c) /\ w.heap[c]? = some (.chan cap buf false s r tm) /\ w' = w.setChan c cap buf true s r tm
theorem wpR_send {N : Nat} {φ : Fr} {ops : Array Oper} {i : Nat} {rest : List Nat} {o : Oper} {ch x : Operand} {w' : World} (hf : Fits N φ a) (ho : ops[i]? = some o) (hw : Region.wanted o (yielded ops a.tmps) = true) (hop : o.op = .send ch x)
    (hs : Sends (ev φ ch) (ev φ x) w w') (h : wpR P ops rest Q (a.put o.dst undef) w') : wpR P ops (i :: rest) Q a w := by
  intro b hb k cs
  obtain ⟨c, cap, buf, s, r, tm, e1, hc, hroom, rfl⟩ := hs
  obtain ⟨e, a', w2, q, har⟩ := h b hb k cs
  have hrun : (execOp a.eval o).run P w = .ok (.comm #[scase c (ev φ x) (.tuple #[])] true .send) w := by
    rw [hf.eval]
    obtain ⟨dst, op, ty, pos, after, guard⟩ := o
    simp only at hop
    subst hop
    simp only [execOp, e1, scase, Sem.run_pure]
  have st := step_lone_send_room (stepG_comm (P := P) (main := true) (b := b) (a := a) (k := k) (cs := cs) (rest := rest) ho hw hb hrun) hc hroom
  rw [fin_at ho] at st
  exact ⟨e, a', w2, q, .of_steps (.one st) har⟩
theorem wpR_recv {N : Nat} {φ : Fr} {ops : Array Oper} {i : Nat} {rest : List Nat} {o : Oper} {t e : TypeId} {d : ChanDir} {inf : TypeInfo} {z : Value} {ch : Operand} {ok : Bool} {v : Value} {w' : World} (hf : Fits N φ a) (ho : ops[i]? = some o) (hw : Region.wanted o (yielded ops a.tmps) = true) (hop : o.op = .recv t ch ok)
    (ht : P.underlying t = some (.chan d e)) (hi : P.info? e = some inf) (hz : inf.zero = some z)
    (hs : Recvs (ev φ ch) z ok v w w') (h : wpR P ops rest Q (a.put o.dst v) w') : wpR P ops (i :: rest) Q a w := by
  intro b hb k cs
  obtain ⟨c, e1, hs⟩ := hs
  obtain ⟨ex, a', w2, q, har⟩ := h b hb k cs
  have hrun : (execOp a.eval o).run P w = .ok (.comm #[rcase c z] true (.recv ok)) w := by
    rw [hf.eval]
    obtain ⟨dst, op, ty, pos, after, guard⟩ := o
    simp only at hop
    subst hop
    have hzv : (zeroValue e).run P w = .ok z w := by simp [zeroValue, typeInfo, hi, hz]
    simp only [execOp, Sem.run_bind, underlying_run ht, Result.andThen_ok, hzv, e1, rcase, Sem.run_pure]
  have hst := stepG_comm (P := P) (main := true) (b := b) (a := a) (k := k) (cs := cs) (rest := rest) ho hw hb hrun
  rcases hs with ⟨cap, buf, closed, s, r, tm, hc, hsome, rfl, rfl⟩ | ⟨cap, s, r, tm, hc, rfl, rfl⟩
  · have st := step_lone_recv_buf ok hst hc hsome
    rw [fin_at ho] at st
    exact ⟨ex, a', w2, q, .of_steps (.one st) har⟩
  · have st := step_lone_recv_shut ok hst hc
    rw [fin_at ho] at st
    exact ⟨ex, a', w2, q, .of_steps (.one st) har⟩
end
def chanOp (o : Oper) : Bool := match o.op with
  | .send _ _ | .recv _ _ _ | .makeChan _ _ => true
  | .call c => match c.callee with
    | .builtin .close => true
    | _ => false
  | _ => false
def anyB : List Oper -> Bool
  | [] => false
  | o :: r => cond (chanOp o) true (anyB r)
def chEff (P : Program) (φ : Fr) (o : Oper) (w : World) (K : Value -> World -> Prop) : Prop :=
  match o.op with
  | .makeChan t n => match P.underlying t, ev φ n with
    | some (.chan _ e), .int _ n => match P.info? e with
      | some inf => (0 <= n /\ n <= 9223372036854775807 /\ (inf.bytes : Int) * n <= 281474976710544) /\ ∀ r w', New w (.chan n.toNat #[] false 0 0 false) r w' -> K (.chan (some r)) w'
      | none => False
    | _, _ => False
  | .send ch x => ∃ w', Sends (ev φ ch) (ev φ x) w w' /\ K undef w'
  | .recv t ch ok => match P.underlying t with
    | some (.chan _ e) => match P.info? e with
      | some inf => match inf.zero with
        | some z => exR (cond ok [vsOf P e, .one .bool] [vsOf P e]) fun v => ∃ w', Recvs (ev φ ch) z ok v w w' /\ K v w'
        | none => False
      | none => False
    | _ => False
  | .call c => match c.callee, c.args.toList.map (ev φ) with
    | .builtin .close, [ch] => ∃ w', Closes ch w w' /\ K (.tuple #[]) w'
    | _, _ => semEff P φ o w K
  | _ => semEff P φ o w K
section
variable (P : Program) (N : Nat)
def dsemC (ops : Array Oper) (K : Fr -> World -> Prop) : List Nat -> Fr -> World -> Prop
  | [], φ, w => K φ w
  | i :: R, φ, w => match ops[i]? with
    | none => False
    | some o => wantT ops φ o
      (match kindOf P o with
        | .pure => semPure P φ o (splitG (isG ops i) fun v => dsemC ops K R (φ.put N o.dst v) w)
        | .read => semRead P (fun p => p w) φ o (splitG (isG ops i) fun v => dsemC ops K R (φ.put N o.dst v) w)
        | .eff => chEff P φ o w fun v w' => splitG (isG ops i) (fun v => dsemC ops K R (φ.put N o.dst v) w') v)
      (dsemC ops K R (φ.put N o.dst undef) w)
variable (car : Nat -> List (Nat × VS))
def semC : Code -> QF -> Fr -> World -> Prop
  | .region id ops draw, Q, φ, w => cond (anyB ops.toList) (cond draw False (dsemC P N ops (Q .normal) (List.range ops.size) φ w)) (sem P N car (.region id ops draw) Q φ w)
  | .seq x y, Q, φ, w => semC x (thenQ (semC y Q) Q) φ w
  | .cond c x y, Q, φ, w => match ev φ c with
    | .bool b => (b = true -> semC x Q φ w) /\ (b = false -> semC y Q φ w)
    | _ => False
  | .block id c, Q, φ, w => semC c (blockQ id Q) φ w
  | .scope c, Q, φ, w => semC c (scopeQ Q) φ w
  | .loop c, Q, φ, w =>
    ∃ (I : TyT ((car (keyOf c)).map (·.2)) (World -> Prop)) (μ : TyT ((car (keyOf c)).map (·.2)) (World -> Nat)),
      holds ((car (keyOf c)).map (·.2)) I ((car (keyOf c)).map fun x => φ x.1) w /\
      ∀ (ζ : Fr) (w : World), allT ((car (keyOf c)).map (·.2)) fun vs => holds ((car (keyOf c)).map (·.2)) I vs w ->
        semC c (thenQ (fun φ' w' => holds ((car (keyOf c)).map (·.2)) I ((car (keyOf c)).map fun x => φ' x.1) w' /\
          meas ((car (keyOf c)).map (·.2)) μ ((car (keyOf c)).map fun x => φ' x.1) w' < meas ((car (keyOf c)).map (·.2)) μ vs w) Q)
          (havoc (dstsOf c) (car (keyOf c)) vs ζ φ) w
  | .skip, Q, φ, w => Q .normal φ w
  | .exit id, Q, φ, w => Q (.exit id) φ w
  | .ret, Q, φ, w => Q .ret φ w
  | .label _, Q, φ, w => Q .normal φ w
  | _, _, _, _ => False
end
section
variable {P : Program} {N : Nat} {car : Nat -> List (Nat × VS)}
theorem wpR_chEff {φ : Fr} {ops : Array Oper} {i : Nat} {rest : List Nat} {o : Oper} {Q : Exit -> Act -> World -> Prop} {a : Act} {w : World} {K : Value -> World -> Prop} (hf : Fits N φ a) (ho : ops[i]? = some o) (hw : Region.wanted o (yielded ops a.tmps) = true)
    (hK : ∀ v w', K v w' -> wpR P ops rest Q (a.put o.dst v) w') (h : chEff P φ o w K) : wpR P ops (i :: rest) Q a w := by
  have old : semEff P φ o w K -> wpR P ops (i :: rest) Q a w := fun h => wpR_goes hf ho hw ((semEff_sound h).mono hK)
  unfold chEff at h
  split at h
  · rename_i t no hop
    split at h
    · rename_i d e kn n hu hev
      split at h
      · rename_i inf hi
        obtain ⟨⟨h0, h1, h2⟩, h⟩ := h
        refine wpR_goes hf ho hw (.value (.chan (some w.heap.size)) (w.alloc (.chan n.toNat #[] false 0 0 false)) ?_ (hK _ _ (h _ _ ⟨rfl, rfl⟩)))
        obtain ⟨dst, op, ty, pos, after, guard⟩ := o
        simp only at hop
        subst hop
        have hn : ((n.toNat : Nat) : Int) = n := Int.toNat_of_nonneg h0
        have hr := run_makeChan (P := P) (w := w) hu hi kn n.toNat (by rw [hn]; exact h1) (by rw [hn]; exact h2)
        rw [hn] at hr
        rw [<- hev] at hr
        simp only [execOp, Sem.run_bind, hr, Result.andThen_ok, Sem.run_pure]
      · exact h.elim
    · exact h.elim
  · rename_i ch x hop
    obtain ⟨w', hs, h⟩ := h
    exact wpR_send hf ho hw hop hs (hK _ _ h)
  · rename_i t ch ok hop
    split at h
    · rename_i d e hu
      split at h
      · rename_i inf hi
        split at h
        · rename_i z hz
          obtain ⟨v, w', hs, h⟩ := exR_elim h
          exact wpR_recv hf ho hw hop hu hi hz hs (hK _ _ h)
        · exact h.elim
      · exact h.elim
    · exact h.elim
  · rename_i c hop
    split at h
    · rename_i ch hcal hargs
      obtain ⟨w', ⟨c0, cap, buf, s, r, tm, e1, hc, rfl⟩, h⟩ := h
      refine wpR_goes hf ho hw (.value (.tuple #[]) (w.setChan c0 cap buf true s r tm) ?_ (hK _ _ h))
      obtain ⟨dst, op, ty, pos, after, guard⟩ := o
      simp only at hop
      subst hop
      obtain ⟨cal, args, ats⟩ := c
      simp only at hcal hargs
      subst hcal
      have hargs' : args.map (ev φ) = #[.chan (some c0)] := by
        apply Array.ext'
        simpa [e1] using hargs
      have hr := run_close_open (P := P) (w := w) ats ty hc
      simp only [execOp, resolve, Sem.run_bind, Sem.run_pure, Result.andThen_ok, invoke, builtin, hargs', hr]
      rfl
    · exact old h
  · exact old h
theorem wpR_of_dsemC {ops : Array Oper} {K : Fr -> World -> Prop} {Q : Exit -> Act -> World -> Prop} : ∀ (R : List Nat) (φ : Fr) (a : Act) (w : World), Fits N φ a ->
    (∀ φ' a' w', Fits N φ' a' -> (∀ n, n ∉ ops.toList.filterMap (·.dst) -> φ' n = φ n) -> K φ' w' -> Q .normal a' w') -> dsemC P N ops K R φ w -> wpR P ops R Q a w
  | [], φ, a, w, hf, hK, h => wpR_nil (hK φ a w hf (fun _ _ => rfl) h)
  | i :: R, φ, a, w, hf, hK, h => by
    simp only [dsemC] at h
    cases ho : ops[i]? with
    | none => rw [ho] at h; exact h.elim
    | some o =>
      rw [ho] at h
      simp only at h
      have next : ∀ v w', dsemC P N ops K R (φ.put N o.dst v) w' -> wpR P ops R Q (a.put o.dst v) w' := fun v w' h' => by
        refine wpR_of_dsemC R _ _ _ (hf.put _ _) (fun φ' a' w2 hf' hfr hk => hK φ' a' w2 hf' (fun n hn => ?_) hk) h'
        rw [hfr n hn]
        exact put_other fun d hdst e => hn (by
          subst e
          exact List.mem_filterMap.2 ⟨o, by simpa using Array.mem_of_getElem? ho, hdst⟩)
      rcases wantT_imp h with ⟨hw, h⟩ | ⟨hw, h⟩
      · rw [<- wantS_eq hf] at hw
        cases hk : kindOf P o with
        | pure =>
          rw [hk] at h
          obtain ⟨v, hy, h⟩ := semPure_sound h
          exact wpR_goes hf ho hw (.value v w (hy w) (next v w (splitG_imp h)))
        | read =>
          rw [hk] at h
          obtain ⟨v, hy, h⟩ := semRead_sound (C := fun w' => w' = w) (fun p hp w' hw => by subst hw; exact hp) h
          exact wpR_goes hf ho hw (.value v w (hy w rfl) (next v w (splitG_imp h)))
        | eff =>
          rw [hk] at h
          exact wpR_chEff hf ho hw (fun v w' h' => next v w' (splitG_imp h')) h
      · rw [<- wantS_eq hf] at hw
        exact wpR_skip ho hw (next _ _ h)
theorem wpB_of_semC : ∀ (c : Code) (Q : QF) (φ : Fr) (a : Act) (w : World), Fits N φ a -> semC P N car c Q φ w ->
    wpB P c (fun e a' w' => ∃ φ', Fits N φ' a' /\ (∀ n, n ∉ dstsOf c -> φ' n = φ n) /\ Q e φ' w') a w
  | .skip, Q, φ, a, w, hf, h => wpB_of_wp (wp_skip ⟨φ, hf, fun _ _ => rfl, h⟩)
  | .region id ops draw, Q, φ, a, w, hf, h => by
    simp only [semC] at h
    cases hc : anyB ops.toList with
    | true =>
      rw [hc] at h
      cases draw with
      | true => exact h.elim
      | false => exact wpB_region (wpR_of_dsemC _ φ a w hf (fun φ' a' w' hf' hfr hk => ⟨φ', hf', hfr, hk⟩) h)
    | false =>
      rw [hc] at h
      have h2 := semA_of_sem (car := car) (.region id ops draw) Q φ w h
      exact wpB_of_wp (wp_of_semA (.region id ops draw) (fun e φ' w' => (∀ n, n ∉ dstsOf (.region id ops draw) -> φ' n = φ n) /\ Q e φ' w') _ φ a w hf (fun e φ' a' w' hf' hq => ⟨φ', hf', hq⟩)
        (semA_frame _ _ _ φ w (fun e φ' w' hfr hq => ⟨hfr, hq⟩) h2))
  | .seq x y, Q, φ, a, w, hf, h => by
    refine wpB_seq (wpB_mono (wpB_of_semC x _ φ a w hf h) fun e a1 w1 ⟨φ1, hf1, hfr, hq⟩ => ?_)
    have hx : ∀ n, n ∉ dstsOf (.seq x y) -> φ1 n = φ n := fun n hn => hfr n fun hm => hn (by simp [dstsOf, hm])
    cases e with
    | normal =>
      exact wpB_mono (wpB_of_semC y Q φ1 a1 w1 hf1 hq) fun e a2 w2 ⟨φ2, hf2, hfr2, hq2⟩ => ⟨φ2, hf2, fun n hn => by
        rw [hfr2 n fun hm => hn (by simp [dstsOf, hm])]
        exact hx n hn, hq2⟩
    | _ => exact ⟨φ1, hf1, hx, hq⟩
  | .cond c x y, Q, φ, a, w, hf, h => by
    simp only [semC] at h
    split at h
    · rename_i b hb
      refine wpB_cond (t := b) (by rw [hf.eval]; exact hb) (fun e => wpB_mono (wpB_of_semC x Q φ a w hf (h.1 e)) fun e a1 w1 ⟨φ1, hf1, hfr, hq⟩ => ⟨φ1, hf1, fun n hn => hfr n fun hm => hn (by simp [dstsOf, hm]), hq⟩)
        (fun e => wpB_mono (wpB_of_semC y Q φ a w hf (h.2 e)) fun e a1 w1 ⟨φ1, hf1, hfr, hq⟩ => ⟨φ1, hf1, fun n hn => hfr n fun hm => hn (by simp [dstsOf, hm]), hq⟩)
    · exact h.elim
  | .block id c, Q, φ, a, w, hf, h => by
    refine wpB_block (wpB_mono (wpB_of_semC c _ φ a w hf h) fun e a1 w1 ⟨φ1, hf1, hfr, hq⟩ => ?_)
    cases e with
    | exit id' =>
      simp only [blockQ] at hq
      simp only [Exit.inBlock]
      by_cases hid : id' = id
      · subst hid
        rw [if_pos rfl]
        have : Nat.beq id' id' = true := by simp
        rw [this] at hq
        exact ⟨φ1, hf1, hfr, hq⟩
      · rw [if_neg hid]
        have : Nat.beq id' id = false := by
          cases hb : Nat.beq id' id with
          | false => rfl
          | true => exact absurd (Nat.eq_of_beq_eq_true hb) hid
        rw [this] at hq
        exact ⟨φ1, hf1, hfr, hq⟩
    | _ => exact ⟨φ1, hf1, hfr, hq⟩
  | .loop c, Q, φ, a, w, hf, h => by
    obtain ⟨I, μ, h0, hr⟩ := h
    have eqf : ∀ {ψ : Fr} {a : Act}, Fits N ψ a -> (fun n => a.tmps.getD n undef) = ψ := fun hf => funext hf.get
    refine wpB_loop (fun a w => ∃ ψ, Fits N ψ a /\ holds _ I ((car (keyOf c)).map fun x => ψ x.1) w /\ ∀ n, n ∉ dstsOf c -> ψ n = φ n)
      (fun a w => meas _ μ ((car (keyOf c)).map fun x => (fun n => a.tmps.getD n undef) x.1) w) ⟨φ, hf, h0, fun _ _ => rfl⟩ ?_
    intro a1 w1 ⟨ψ, hf1, hJ, hψ⟩
    have h2 : ∃ g, appT ((car (keyOf c)).map (·.2)) I ((car (keyOf c)).map fun x => ψ x.1) = some g := by
      unfold holds at hJ
      split at hJ
      · rename_i g hg; exact ⟨g, hg⟩
      · exact hJ.elim
    obtain ⟨g, hg⟩ := h2
    have h3 := allT_app hg (hr ψ w1) hJ
    rw [havoc_eq hψ] at h3
    refine wpB_mono (wpB_of_semC c _ ψ a1 w1 hf1 h3) fun e a2 w2 ⟨φ2, hf2, hfr, hq⟩ => ?_
    have hx : ∀ n, n ∉ dstsOf c -> φ2 n = φ n := fun n hn => by rw [hfr n hn, hψ n hn]
    cases e with
    | normal =>
      refine ⟨⟨φ2, hf2, hq.1, hx⟩, ?_⟩
      show meas _ μ ((car (keyOf c)).map fun x => (fun n => a2.tmps.getD n undef) x.1) w2 < meas _ μ ((car (keyOf c)).map fun x => (fun n => a1.tmps.getD n undef) x.1) w1
      rw [eqf hf2, eqf hf1]
      exact hq.2
    | _ => exact ⟨φ2, hf2, hx, hq⟩
  | .exit id, Q, φ, a, w, hf, h => wpB_of_wp (wp_exit ⟨φ, hf, fun _ _ => rfl, h⟩)
  | .ret, Q, φ, a, w, hf, h => wpB_of_wp (wp_ret ⟨φ, hf, fun _ _ => rfl, h⟩)
  | .label _, Q, φ, a, w, hf, h => wpB_of_wp (wp_label ⟨φ, hf, fun _ _ => rfl, h⟩)
  | .goto _, _, _, _, _, _, hs => hs.elim
  | .scope c, Q, φ, a, w, hf, h => by
    refine wpB_scope (wpB_mono (wpB_of_semC c _ φ a w hf h) fun e a1 w1 ⟨φ1, hf1, hfr, hq⟩ => ?_)
    cases e with
    | goto l => exact hq.elim
    | _ => exact ⟨φ1, hf1, hfr, hq⟩
  | .rangeFunc _ _ _ _, _, _, _, _, _, hs => hs.elim
  | .refuse _, _, _, _, _, _, hs => hs.elim
def fsemC (P : Program) (fn : Func) (car : Nat -> List (Nat × VS)) (args : List Value) (R : Value -> World -> Prop) (w : World) : Prop :=
  match fn.body with
  | some c => semC P fn.ntmps car c (bodyQ P fn R) (initF args) w
  | none => False
theorem calls_of_wpB {f : FuncId} {fn : Func} {c : Code} {args : Array Value} {w : World} {R : Ending -> World -> Prop} (hf : P.funcs[f]? = some fn) (hb : fn.body = some c) (hR : ∀ w', ¬ R .outgrown w')
    (h : wpB P c (bodyPost P fn R) { tmps := args ++ Array.replicate (fn.ntmps - args.size) undef, defers := [] } w) : Calls P f args w R := by
  intro cs
  have henter := enter_at (P := P) args hf hb
  obtain ⟨e, a', w', hq, har⟩ := h (base f) (by simp [base]) [] cs
  rw [<- henter] at har
  have fin : (a'.defers = [] /\ ∃ v, (results fn a'.tmps).run P w' = .ok v w' /\ R (.returned v) w') -> (∃ todo, Steps P (lone (Frame.enter P f args .normal) cs w) (lone { (base f).at a' todo with mode := .returning } cs w')) ->
      ∃ e w' fr, R e w' /\ Comes P (lone (Frame.enter P f args .normal) cs w) (lone fr cs w') e /\ fr.fn = f /\ fr.leaving P w' e := by
    rintro ⟨hd, v, hr, hk⟩ ⟨todo, hs⟩
    exact ⟨.returned v, w', _, hk, hs, rfl, rfl, hd, rfl, fn, hf, hr⟩
  cases e with
  | normal => exact fin hq ⟨[], Steps.trans har (.one step_end)⟩
  | ret => exact fin hq har
  | panic chain =>
    obtain ⟨todo, hs⟩ := har
    exact ⟨.panicked chain, w', _, hq.2, hs, rfl, rfl, hq.1, fn, hf⟩
  | outgrown => exact absurd hq (hR w')
  | exit id => exact hq.elim
  | goto l => exact hq.elim
theorem Ret.of_fsemC {f : FuncId} {fn : Func} {args : List Value} {w : World} {R : Value -> World -> Prop}
    (hf : P.funcs[f]? = some fn) (hlen : Nat.ble args.length fn.ntmps = true) (h : fsemC P fn car args R w) : Ret P f args w R := by
  unfold fsemC at h
  split at h
  · rename_i c hb
    refine calls_of_wpB hf hb (fun w' ⟨v, he, _⟩ => by cases he) ?_
    have hlen' : args.length <= fn.ntmps := Nat.le_of_ble_eq_true hlen
    refine wpB_mono (wpB_of_semC c (bodyQ P fn R) (initF args) _ w (initF_fits hlen') h) fun e a w' ⟨φ, hfit, _, hq⟩ => ?_
    have key : resT P φ w' fn.results.toList (fun vs => R (retV vs) w') -> a.defers = [] /\ ∃ v, (results fn a.tmps).run P w' = .ok v w' /\ ∃ u, Ending.returned v = .returned u /\ R u w' := by
      intro hq
      obtain ⟨vs, hk, hr⟩ := resT_sound hfit _ _ hq
      refine ⟨hfit.defers, retV vs, ?_, _, rfl, hk⟩
      rw [results_eq, Array.mapM_eq_mapM_toList]
      simp only [Sem.run_bind, Sem.run_map, hr, Result.andThen_ok, Sem.run_pure]
      match vs with
      | [] => simp [retV]
      | [v] => simp [retV]
      | _ :: _ :: _ => simp [retV]
    cases e with
    | normal => exact key hq
    | ret => exact key hq
    | _ => exact hq.elim
  · exact h.elim
end
end Go.Proofs.YtbgokfhcgcoipaaDoor.Sx
namespace Go.Proofs.YtbgokfhcgcoipaaDoor
variable {w : World} {R : Value -> World -> Prop}
open Go Go.Proofs.YtbgokfhcgcoipaaDoor.Sx
set_option maxRecDepth 100000
def impl_Plan_j0 (n mode : Int) (r a0 a1 : Nat) (W : World) (R : Value -> World -> Prop) : Prop :=
 ∀ a2 a3, New W (.cells ⟨[]⟩ 98 (0, 0)) a2 a3 ->
 ∃ a4 a5 a6 a7 a8, Loads P 27 ⟨r, 0, none⟩ (.agg #[.string a4, .bool a5, .slice a6 a7 a8]) a3 /\ ∃ a9 aa ab ac ae, Loads P 30 ⟨a0, 0, none⟩ (.agg #[.bool a9, .slice aa ab ac, .int .i64 ae]) a3 /\ ∃ af ag ah ai aj, Loads P 27 ⟨a1, 0, none⟩ (.agg #[.string af, .bool ag, .slice ah ai aj]) a3 /\ Calls P 46 ⟨[.agg #[.string a4, .bool a5, .slice a6 a7 a8], .agg #[.bool a9, .slice aa ab ac, .int .i64 ae], .agg #[.string af, .bool ag, .slice ah ai aj], .int .i64 n, .int .i64 mode]⟩ a3 fun e ak =>
 ∃ (al : Value), e = .returned al /\
 ∃ (am : Option Addr -> Nat -> Nat -> World -> Prop) (mu : Option Addr -> Nat -> Nat -> World -> Nat), am (some ⟨a2, 0, none⟩) 0 0 ak /\
 ∀ (an : Fr) (ao : World) (ap : Option Addr) (aq ar : Nat), am ap aq ar ao ->
 ∃ au av aw ax ay az b0 b1 b2 b3 b4 b5 b6 b7 b8 b9 ok, ∃ wv_6, Recvs al (.agg #[.string ByteArray.empty, .bool false, .slice none 0 0, .string ByteArray.empty, .bool false, .slice none 0 0, .string ByteArray.empty, .bool false, .slice none 0 0, .bool false]) true (.tuple #[.agg #[.string au, .bool av, .slice aw ax ay, .string az, .bool b0, .slice b1 b2 b3, .string b4, .bool b5, .slice b6 b7 b8, .bool b9], .bool ok]) ao wv_6 /\
 (ok = true ->
 ∀ ba bb, New wv_6 (.cells ⟨[.string ByteArray.empty, .bool false, .slice none 0 0, .string ByteArray.empty, .bool false, .slice none 0 0, .string ByteArray.empty, .bool false, .slice none 0 0, .bool false]⟩ 100 (0, 0)) ba bb ->
 ∃ wv_8, Stores P 100 ⟨ba, 0, none⟩ (.agg #[.string au, .bool av, .slice aw ax ay, .string az, .bool b0, .slice b1 b2 b3, .string b4, .bool b5, .slice b6 b7 b8, .bool b9]) bb wv_8 /\
 ∃ bc, Loads P 4 ((⟨ba, 0, none⟩ : Addr).add 9) (.bool bc) wv_8 /\ ((!bc) = true ->
 R (.tuple #[.slice none 0 0, .bool false]) wv_8) /\
 ((!bc) = false ->
 ∃ bd be bf bg bh bi bj bk bl bm bn bo bp bq br, Loads P 98 ((⟨ba, 0, none⟩ : Addr).add 0) (.agg #[.string bd, .bool be, .slice bf bg bh, .string bi, .bool bj, .slice bk bl bm, .string bn, .bool bo, .slice bp bq br]) wv_8 /\ ∀ bs bt, New wv_8 (.cells ⟨[.string ByteArray.empty, .bool false, .slice none 0 0, .string ByteArray.empty, .bool false, .slice none 0 0, .string ByteArray.empty, .bool false, .slice none 0 0]⟩ 98 (0, 0)) bs bt ->
 ∃ wv_10, Stores P 98 ⟨bs, 0, none⟩ (.agg #[.string bd, .bool be, .slice bf bg bh, .string bi, .bool bj, .slice bk bl bm, .string bn, .bool bo, .slice bp bq br]) bt wv_10 /\
 ∃ bu bv bw bx bz, (∀ wv_11, Ext wv_10.drew wv_11 -> Loads P 27 ((⟨bs, 0, none⟩ : Addr).add 0) (.agg #[.string bu, .bool bv, .slice bw bx bz]) wv_11) /\ Calls P 47 ⟨[.agg #[.string bu, .bool bv, .slice bw bx bz]]⟩ wv_10.drew fun c0 c1 =>
 ∃ c2 c3 c4 c5 c6, c0 = .returned (.agg #[.string c2, .bool c3, .slice c4 c5 c6]) /\
 Ext wv_10.drew c1 /\ ∃ c7 c8 c9 ca cb, (∀ wv_13, Ext wv_10.drew wv_13 -> Loads P 27 ((⟨bs, 0, none⟩ : Addr).add 3) (.agg #[.string c7, .bool c8, .slice c9 ca cb]) wv_13) /\ Calls P 47 ⟨[.agg #[.string c7, .bool c8, .slice c9 ca cb]]⟩ c1 fun cc cd =>
 ∃ ce cf cg ch ci, cc = .returned (.agg #[.string ce, .bool cf, .slice cg ch ci]) /\
 Ext c1 cd /\ ∃ cj ck cl cm cn, (∀ wv_15, Ext wv_10.drew wv_15 -> Loads P 27 ((⟨bs, 0, none⟩ : Addr).add 6) (.agg #[.string cj, .bool ck, .slice cl cm cn]) wv_15) /\ Calls P 47 ⟨[.agg #[.string cj, .bool ck, .slice cl cm cn]]⟩ cd fun co cp =>
 ∃ cq cr cs ct cu, co = .returned (.agg #[.string cq, .bool cr, .slice cs ct cu]) /\
 ∀ cv cw, New cp (.cells ⟨[.string c2, .bool c3, .slice c4 c5 c6, .string ce, .bool cf, .slice cg ch ci, .string cq, .bool cr, .slice cs ct cu]⟩ 98 (0, 0)) cv cw ->
 ∃ cx cy cz d0, Appends P [37, 37] [.slice ap aq ar, (.slice (some ⟨cv, 0, none⟩) 1 1)] (.slice cx cy cz) cw d0 /\
 am cx cy cz d0 /\ mu cx cy cz d0 < mu ap aq ar ao)) /\
 (ok = false ->
 R (.tuple #[.slice ap aq ar, .bool true]) wv_6)
def impl_Plan (left0 : ByteArray) (left1 : Bool) (a0 : Option Addr) (a1 a2 : Nat) (r0 : Bool) (a3 : Option Addr) (a4 a5 : Nat) (r2 : Int) (pay0 : ByteArray) (pay1 : Bool) (a6 : Option Addr) (a7 a8 : Nat) (n mode : Int) (w : World) (R : Value -> World -> Prop) : Prop :=
 ∀ r wv, New w (.cells ⟨[.string left0, .bool left1, .slice a0 a1 a2]⟩ 27 (0, 0)) r wv ->
 ∀ a9 aa, New wv (.cells ⟨[.bool r0, .slice a3 a4 a5, .int .i64 r2]⟩ 30 (0, 0)) a9 aa ->
 ∀ ab ac, New aa (.cells ⟨[.string pay0, .bool pay1, .slice a6 a7 a8]⟩ 27 (0, 0)) ab ac ->
 ((decide ((n : Int) < 1)) = true ->
 (true = true ->
 (true = true ->
 R (.tuple #[.slice none 0 0, .bool false]) ac) /\
 (true = false ->
 impl_Plan_j0 n mode r a9 ab ac R)) /\
 (true = false ->
 ∃ ae af ag ah ai, Loads P 27 ⟨r, 0, none⟩ (.agg #[.string ae, .bool af, .slice ag ah ai]) ac /\ ∃ aj ak al am an, Loads P 27 ⟨ab, 0, none⟩ (.agg #[.string aj, .bool ak, .slice al am an]) ac /\ Calls P 45 ⟨[.agg #[.string ae, .bool af, .slice ag ah ai], .agg #[.string aj, .bool ak, .slice al am an]]⟩ ac fun ao ap =>
 ∃ aq, ao = .returned (.bool aq) /\
 ((!aq) = true ->
 R (.tuple #[.slice none 0 0, .bool false]) ap) /\
 ((!aq) = false ->
 impl_Plan_j0 n mode r a9 ab ap R))) /\
 ((decide ((n : Int) < 1)) = false ->
 ((decide ((24 : Int) < n)) = true ->
 (true = true ->
 R (.tuple #[.slice none 0 0, .bool false]) ac) /\
 (true = false ->
 impl_Plan_j0 n mode r a9 ab ac R)) /\
 ((decide ((24 : Int) < n)) = false ->
 ∃ ar au av aw ax, Loads P 27 ⟨r, 0, none⟩ (.agg #[.string ar, .bool au, .slice av aw ax]) ac /\ ∃ ay az b0 b1 b2, Loads P 27 ⟨ab, 0, none⟩ (.agg #[.string ay, .bool az, .slice b0 b1 b2]) ac /\ Calls P 45 ⟨[.agg #[.string ar, .bool au, .slice av aw ax], .agg #[.string ay, .bool az, .slice b0 b1 b2]]⟩ ac fun b3 b4 =>
 ∃ b5, b3 = .returned (.bool b5) /\
 ((!b5) = true ->
 R (.tuple #[.slice none 0 0, .bool false]) b4) /\
 ((!b5) = false ->
 impl_Plan_j0 n mode r a9 ab b4 R)))
theorem impl_Plan_eq (left0 : ByteArray) (left1 : Bool) (left2_p : Option Addr) (left2_n : Nat) (left2_c : Nat) (r0 : Bool) (r1_p : Option Addr) (r1_n : Nat) (r1_c : Nat) (r2 : Int) (pay0 : ByteArray) (pay1 : Bool) (pay2_p : Option Addr) (pay2_n : Nat) (pay2_c : Nat) (n : Int) (mode : Int) (w : World) (R : Value -> World -> Prop) : impl_Plan left0 left1 left2_p left2_n left2_c r0 r1_p r1_n r1_c r2 pay0 pay1 pay2_p pay2_n pay2_c n mode w R = fsemC P Tryd.f12 (fun k => cond (Nat.beq k 6) [(12, .one .slice)] ([])) [(.agg #[(.string left0), (.bool left1), (.slice left2_p left2_n left2_c)]), (.agg #[(.bool r0), (.slice r1_p r1_n r1_c), (.int .i64 r2)]), (.agg #[(.string pay0), (.bool pay1), (.slice pay2_p pay2_n pay2_c)]), (.int .i64 n), (.int .i64 mode)] R w := by kernel_rfl
theorem impl_Plan_ret {a : ByteArray} {a0 : Bool} {a1 : Option Addr} {a2 a3 : Nat} {r0 : Bool} {a4 : Option Addr} {a5 a6 : Nat} {r2 : Int} {a7 : ByteArray} {a8 : Bool} {a9 : Option Addr} {b b0 : Nat} {n b1 : Int} (h : impl_Plan a a0 a1 a2 a3 r0 a4 a5 a6 r2 a7 a8 a9 b b0 n b1 w R) : Ret P 12 [.agg #[.string a, .bool a0, .slice a1 a2 a3], .agg #[.bool r0, .slice a4 a5 a6, .int .i64 r2], .agg #[.string a7, .bool a8, .slice a9 b b0], .int .i64 n, .int .i64 b1] w R := Ret.of_fsemC Tryd.func12 rfl (Eq.mp (impl_Plan_eq a a0 a1 a2 a3 r0 a4 a5 a6 r2 a7 a8 a9 b b0 n b1 w R) h)
def impl_periods_j0 (a0 : Nat) (W : World) (R : Value -> World -> Prop) : Prop :=
 ∃ wv_6, Closes (.chan (some a0)) W wv_6 /\
 R (.chan (some a0)) wv_6
def impl_periods (left0 : ByteArray) (left1 : Bool) (a0 : Option Addr) (a1 a2 : Nat) (r0 : Bool) (a3 : Option Addr) (a4 a5 : Nat) (r2 : Int) (pay0 : ByteArray) (pay1 : Bool) (a6 : Option Addr) (a7 a8 : Nat) (n mode : Int) (w : World) (R : Value -> World -> Prop) : Prop :=
 ∀ r wv, New w (.cells ⟨[.string left0, .bool left1, .slice a0 a1 a2]⟩ 27 (0, 0)) r wv ->
 ∀ a9 aa, New wv (.cells ⟨[.bool r0, .slice a3 a4 a5, .int .i64 r2]⟩ 30 (0, 0)) a9 aa ->
 ∀ ab ac, New aa (.cells ⟨[.string pay0, .bool pay1, .slice a6 a7 a8]⟩ 27 (0, 0)) ab ac ->
 (0 <= (24 : Int) /\ (24 : Int) <= 9223372036854775807 /\ ((152 : Nat) : Int) * 24 <= 281474976710544) /\
 ∀ ae af, New ac (.chan 24 #[] false 0 0 false) ae af ->
 ∃ (ag : Int -> World -> Prop) (mu : Int -> World -> Nat), ag 0 af /\
 ∀ (ah : Fr) (ai : World) (aj : Int), ag aj ai ->
 ((decide ((aj : Int) < n)) = true ->
 ∃ ak al am an ao, Loads P 27 ⟨r, 0, none⟩ (.agg #[.string ak, .bool al, .slice am an ao]) ai /\ Calls P 37 ⟨[.agg #[.string ak, .bool al, .slice am an ao]]⟩ ai fun e ap =>
 ∃ aq, e = .returned (.bool aq) /\
 (aq = true ->
 impl_periods_j0 ae ap R) /\
 (aq = false ->
 ∃ ar au av aw ax, Loads P 27 ⟨r, 0, none⟩ (.agg #[.string ar, .bool au, .slice av aw ax]) ap /\ ∃ ay az b0 b1 b2, Loads P 30 ⟨a9, 0, none⟩ (.agg #[.bool ay, .slice az b0 b1, .int .i64 b2]) ap /\ ∃ b3 b4 b5 b6 b7, Loads P 27 ⟨ab, 0, none⟩ (.agg #[.string b3, .bool b4, .slice b5 b6 b7]) ap /\ Calls P 82 ⟨[.agg #[.string ar, .bool au, .slice av aw ax], .agg #[.bool ay, .slice az b0 b1, .int .i64 b2], .agg #[.string b3, .bool b4, .slice b5 b6 b7], .int .i64 mode]⟩ ap fun b8 b9 =>
 ∃ ba bb bc bd be bf bg bh bi bj bk bl bm bn bo bp, b8 = .returned (.tuple #[.agg #[.string ba, .bool bb, .slice bc bd be, .string bf, .bool bg, .slice bh bi bj, .string bk, .bool bl, .slice bm bn bo], .bool bp]) /\
 ∀ bq br, New b9 (.cells ⟨[.string ByteArray.empty, .bool false, .slice none 0 0, .string ByteArray.empty, .bool false, .slice none 0 0, .string ByteArray.empty, .bool false, .slice none 0 0]⟩ 98 (0, 0)) bq br ->
 ∃ wv_9, Stores P 98 ⟨bq, 0, none⟩ (.agg #[.string ba, .bool bb, .slice bc bd be, .string bf, .bool bg, .slice bh bi bj, .string bk, .bool bl, .slice bm bn bo]) br wv_9 /\
 ∃ bs bt bu bv bw bx bz c0 c1 c2 c3 c4 c5 c6 c7, Loads P 98 ⟨bq, 0, none⟩ (.agg #[.string bs, .bool bt, .slice bu bv bw, .string bx, .bool bz, .slice c0 c1 c2, .string c3, .bool c4, .slice c5 c6 c7]) wv_9 /\ ∃ wv_10, Sends (.chan (some ae)) (.agg #[.string bs, .bool bt, .slice bu bv bw, .string bx, .bool bz, .slice c0 c1 c2, .string c3, .bool c4, .slice c5 c6 c7, .bool bp]) wv_9 wv_10 /\
 ((!bp) = true ->
 impl_periods_j0 ae wv_10 R) /\
 ((!bp) = false ->
 ∃ c8 c9 ca cb cc, Loads P 27 ((⟨bq, 0, none⟩ : Addr).add 6) (.agg #[.string c8, .bool c9, .slice ca cb cc]) wv_10 /\ ∃ wv_11, Stores P 27 ⟨r, 0, none⟩ (.agg #[.string c8, .bool c9, .slice ca cb cc]) wv_10 wv_11 /\
 ∃ cd : Int, cd = IntKind.wrap .i64 (aj + 1) /\ ag cd wv_11 /\ mu cd wv_11 < mu aj ai))) /\
 ((decide ((aj : Int) < n)) = false ->
 impl_periods_j0 ae ai R)
theorem impl_periods_eq (left0 : ByteArray) (left1 : Bool) (left2_p : Option Addr) (left2_n : Nat) (left2_c : Nat) (r0 : Bool) (r1_p : Option Addr) (r1_n : Nat) (r1_c : Nat) (r2 : Int) (pay0 : ByteArray) (pay1 : Bool) (pay2_p : Option Addr) (pay2_n : Nat) (pay2_c : Nat) (n : Int) (mode : Int) (w : World) (R : Value -> World -> Prop) : impl_periods left0 left1 left2_p left2_n left2_c r0 r1_p r1_n r1_c r2 pay0 pay1 pay2_p pay2_n pay2_c n mode w R = fsemC P Tryd.f46 (fun k => cond (Nat.beq k 4) [(16, .one (.int .i64))] ([])) [(.agg #[(.string left0), (.bool left1), (.slice left2_p left2_n left2_c)]), (.agg #[(.bool r0), (.slice r1_p r1_n r1_c), (.int .i64 r2)]), (.agg #[(.string pay0), (.bool pay1), (.slice pay2_p pay2_n pay2_c)]), (.int .i64 n), (.int .i64 mode)] R w := by kernel_rfl
theorem impl_periods_ret {a : ByteArray} {a0 : Bool} {a1 : Option Addr} {a2 a3 : Nat} {r0 : Bool} {a4 : Option Addr} {a5 a6 : Nat} {r2 : Int} {a7 : ByteArray} {a8 : Bool} {a9 : Option Addr} {b b0 : Nat} {n b1 : Int} (h : impl_periods a a0 a1 a2 a3 r0 a4 a5 a6 r2 a7 a8 a9 b b0 n b1 w R) : Ret P 46 [.agg #[.string a, .bool a0, .slice a1 a2 a3], .agg #[.bool r0, .slice a4 a5 a6, .int .i64 r2], .agg #[.string a7, .bool a8, .slice a9 b b0], .int .i64 n, .int .i64 b1] w R := Ret.of_fsemC Tryd.func46 rfl (Eq.mp (impl_periods_eq a a0 a1 a2 a3 r0 a4 a5 a6 r2 a7 a8 a9 b b0 n b1 w R) h)
end Go.Proofs.YtbgokfhcgcoipaaDoor
namespace Go.Proofs.YtbgokfhcgcoipaaDoor
open Go Go.Conc Go.Proofs.YtbgokfhcgcoipaaDoor.Sx
def zeroM : List D0 -> Bool
  | [.str _, .bool b, .ints z] => intOk [.bool b, .ints z] && decide (isign [.bool b, .ints z] = 0)
  | _ => false
def perL : Nat -> List D0 -> List D0 -> List D0 -> Int -> List (Bool × List D0)
  | 0, _, _, _, _ => []
  | k + 1, cur, dr, dp, m => if zeroM cur then [] else nextT cur dr dp m :: (if (nextT cur dr dp m).1 then perL k ((nextT cur dr dp m).2.drop 6) dr dp m else [])
theorem perL_succ (k : Nat) (cur dr dp : List D0) (m : Int) : perL (k + 1) cur dr dp m = if zeroM cur then [] else nextT cur dr dp m :: (if (nextT cur dr dp m).1 then perL k ((nextT cur dr dp m).2.drop 6) dr dp m else []) := rfl
def planT (n : Int) (dl dr dp : List D0) (m : Int) : Bool × List (List D0) :=
 if (decide (1 <= n) && decide (n <= 24)) && (alk dl dp && (perL n.toNat dl dr dp m).all (fun x => x.1)) then (true, (perL n.toNat dl dr dp m).map (fun x => x.2)) else (false, [])
theorem perL_len (dr dp : List D0) (m : Int) : ∀ (k : Nat) (cur : List D0), (perL k cur dr dp m).length <= k
  | 0, _ => Nat.le_refl _
  | k + 1, cur => by
    unfold perL
    split
    · simp
    · rw [List.length_cons]
      split
      · have := perL_len dr dp m k ((nextT cur dr dp m).2.drop 6); omega
      · simp
abbrev rowCode : List C0 := [.str, .bool, .ints, .str, .bool, .ints, .str, .bool, .ints]
theorem perL_code (dr dp : List D0) (m : Int) : ∀ (k : Nat) (cur : List D0), ∀ x ∈ perL k cur dr dp m, x.2.map D0.code = rowCode
  | 0, _, x, h => by simp [perL] at h
  | k + 1, cur, x, h => by
    unfold perL at h
    split at h
    · simp at h
    · rcases List.mem_cons.1 h with e | e
      · rw [e]; exact nextT_code _ _ _ _
      · split at e
        · exact perL_code dr dp m k _ x e
        · simp at e
theorem drop6_code {x : List D0} (h : x.map D0.code = rowCode) : (x.drop 6).map D0.code = [.str, .bool, .ints] := by
  rw [List.map_drop, h]; rfl
def ChO (W : World) (B : Nat) : List Value -> List (Bool × List D0) -> Prop
  | [], [] => True
  | v :: vs, p :: ps => (∃ cs f, v = .agg ⟨cs ++ [.bool p.1]⟩ /\ Owns W B cs p.2 f) /\ ChO W B vs ps
  | _, _ => False
theorem ChO.ext {W W' : World} {B : Nat} : ∀ {vs : List Value} {ps : List (Bool × List D0)}, ChO W B vs ps -> Ext W W' -> ChO W' B vs ps
  | [], [], _, _ => trivial
  | [], _ :: _, h, _ => h.elim
  | _ :: _, [], h, _ => h.elim
  | _ :: _, _ :: _, ⟨⟨cs, f, hv, ho⟩, h⟩, he => ⟨⟨cs, f, hv, ho.ext he⟩, ChO.ext h he⟩
theorem ChO.chg {W W' : World} {B r : Nat} (hr : r < B) : ∀ {vs : List Value} {ps : List (Bool × List D0)}, ChO W B vs ps -> Chg [r] W W' -> ChO W' B vs ps
  | [], [], _, _ => trivial
  | [], _ :: _, h, _ => h.elim
  | _ :: _, [], h, _ => h.elim
  | _ :: _, _ :: _, ⟨⟨cs, f, hv, ho⟩, h⟩, he => ⟨⟨cs, f, hv, ho.chg1 he hr⟩, ChO.chg hr h he⟩
theorem ChO.snoc {W : World} {B : Nat} {cs : List Value} {p : Bool × List D0} {f : List Nat} (ho : Owns W B cs p.2 f) : ∀ {vs : List Value} {ps : List (Bool × List D0)}, ChO W B vs ps -> ChO W B (vs ++ [.agg ⟨cs ++ [.bool p.1]⟩]) (ps ++ [p])
  | [], [], _ => ⟨⟨cs, f, rfl, ho⟩, trivial⟩
  | [], _ :: _, h => h.elim
  | _ :: _, [], h => h.elim
  | _ :: _, _ :: _, ⟨h1, h⟩ => ⟨h1, ChO.snoc ho h⟩
theorem Owns.drops {w : World} {B : Nat} : ∀ (k : Nat) {vs : List Value} {ds : List D0} {f : List Nat}, Owns w B vs ds f -> ∃ g, Owns w B (vs.drop k) (ds.drop k) g /\ ∀ q ∈ g, q ∈ f
  | 0, vs, ds, f, h => ⟨f, h, fun q hq => hq⟩
  | k + 1, [], [], f, h => ⟨f, h, fun q hq => hq⟩
  | k + 1, [], _ :: _, f, h => h.elim
  | k + 1, _ :: _, [], f, h => h.elim
  | k + 1, v :: vs, d :: ds, f, ⟨f1, f2, hf, _, h⟩ => by
    obtain ⟨g, hg, hm⟩ := Owns.drops k h
    exact ⟨g, hg, fun q hq => by rw [hf]; exact List.mem_append_right _ (hm q hq)⟩
theorem setChan_chg {w : World} {c cap : Nat} {buf : Array Value} {cl : Bool} {s r : Nat} {tm : Bool} : Chg [c] w (w.setChan c cap buf cl s r tm) :=
  ⟨rfl, rfl, rfl, Nat.le_of_eq (size_setChan w c cap buf cl s r tm).symm, fun k hk hn => by
    simp only [World.setChan]
    rw [Array.getElem?_setIfInBounds_ne (by simp at hn; omega)]⟩
theorem chan_ext {w w' : World} {c : Nat} {o : Obj} (h : w.heap[c]? = some o) (he : Ext w w') : w'.heap[c]? = some o := (he.block c (Array.getElem?_eq_some_iff.1 h).1).trans h
theorem chan_chg {S : List Nat} {w w' : World} {c : Nat} {o : Obj} (h : w.heap[c]? = some o) (he : Chg S w w') (hc : c ∉ S) : w'.heap[c]? = some o := (he.block c (Array.getElem?_eq_some_iff.1 h).1 hc).trans h
theorem chan_lt {w : World} {c : Nat} {o : Obj} (h : w.heap[c]? = some o) : c < w.heap.size := (Array.getElem?_eq_some_iff.1 h).1
theorem New.chan {w w' : World} {o : Obj} {r : Nat} (h : New w o r w') : w'.heap[r]? = some o := by
  obtain ⟨rfl, rfl⟩ := h
  exact heap_alloc_new w _
theorem impl_periods_c {w : World} {xs ys zs : List Value} {dx dr dp : List D0} (h : Reps w xs dx) (hc : dx.map D0.code = [.str, .bool, .ints]) (g : Reps w ys dr) (gc : dr.map D0.code = [.bool, .ints, .int]) (k : Reps w zs dp) (kc : dp.map D0.code = [.str, .bool, .ints]) (n : Nat) (hn : n <= 24) (mode : Int) (ht : Tab w) :
    Ret P 46 [.agg ⟨xs⟩, .agg ⟨ys⟩, .agg ⟨zs⟩, .int .i64 n, .int .i64 mode] w fun v w' => ∃ c buf s r, v = .chan (some c) /\ w.heap.size <= c /\ w'.heap[c]? = some (.chan 24 buf true s r false) /\ ChO w' (c + 1) buf.toList (perL n dx dr dp mode) /\ Ext w w' := by
  have hr := h; have gr := g; have kr := k
  obtain ⟨c0, b0, ap, an, ac, z0, rfl, hdx, ha⟩ := open_Money h hc
  obtain ⟨d0, dp', dn, dc, dz, ds, rfl, hdr, hd⟩ := open_Dec g gc
  obtain ⟨c2, b2, bp, bn, bc, z2, rfl, hdp, hb⟩ := open_Money k kc
  refine impl_periods_ret ?_
  unfold impl_periods
  intro r w1 hn1 r1 w2 hn2 r2 w3 hn3
  refine ⟨⟨by omega, by omega, by omega⟩, ?_⟩
  intro ch w4 hn4
  have e1 := hn1.r_eq; have e2 := hn2.r_eq; have e3 := hn3.r_eq; have e4 := hn4.r_eq; have s1 := hn1.size; have s2 := hn2.size; have s3 := hn3.size; have s4 := hn4.size
  have X := ((hn1.ext.trans hn2.ext).trans hn3.ext).trans hn4.ext
  have q0 := ((hn1.blk.ext hn2.ext).ext hn3.ext).ext hn4.ext; have q1 := (hn2.blk.ext hn3.ext).ext hn4.ext; have q2 := hn3.blk.ext hn4.ext
  have hch4 := New.chan hn4
  -- the channel is closed and handed back
  have fin : ∀ (W : World) (buf : Array Value) (s rr : Nat), W.heap[ch]? = some (.chan 24 buf false s rr false) -> ChO W (ch + 1) buf.toList (perL n dx dr dp mode) -> Ext w W -> impl_periods_j0 ch W fun v w' => ∃ c buf s r, v = .chan (some c) /\ w.heap.size <= c /\ w'.heap[c]? = some (.chan 24 buf true s r false) /\ ChO w' (c + 1) buf.toList (perL n dx dr dp mode) /\ Ext w w' := by
    intro W buf s rr hW hB hX
    unfold impl_periods_j0
    refine ⟨W.setChan ch 24 buf true s rr false, ⟨ch, 24, buf, s, rr, false, rfl, hW, rfl⟩, ch, buf, s, rr, rfl, by omega, heap_setChan _ _ _ _ _ _ _ _ (chan_lt hW), hB.chg (Nat.lt_succ_self _) setChan_chg, hX.chg setChan_chg (by simp; omega)⟩
  refine ⟨fun t W => ∃ (j : Nat) (vs : List Value) (cur : List D0) (buf : Array Value) (s rr : Nat) (done : List (Bool × List D0)), t = j /\ j <= n /\ Blk W r T_impl_Money vs /\ Blk W r1 T_impl_Dec [.bool d0, .slice dp' dn dc, .int .i64 ds] /\ Blk W r2 T_impl_Money [.string c2, .bool b2, .slice bp bn bc] /\
      cur.map D0.code = [.str, .bool, .ints] /\ Reps W vs cur /\ W.heap[ch]? = some (.chan 24 buf false s rr false) /\ buf.size = j /\ ChO W (ch + 1) buf.toList done /\ done ++ perL (n - j) cur dr dp mode = perL n dx dr dp mode /\ Ext w W, fun t _ => n - t.toNat,
    ⟨0, _, dx, #[], 0, 0, [], rfl, by omega, q0, q1, q2, hc, hr.ext X, hch4, rfl, trivial, rfl, X⟩, ?_⟩
  rintro junk W t ⟨j, vs, cur, buf, s, rr, done, rfl, hj, hb0, hb1, hb2, hcc, hcur, hch, hsz, hbo, hper, hX⟩
  refine ifD (fun hlt => ?_) (fun hge => ?_)
  · have hcr := hcur
    obtain ⟨cc, cb, cp, cn, ccp, cz, rfl, hcd, hci⟩ := open_Money hcur hcc
    subst hcd
    have hk : n - j = (n - (j + 1)) + 1 := by omega
    rw [hk, perL_succ] at hper
    refine ⟨_, _, _, _, _, hb0.loadA0 (by kernel_rfl), ?_⟩
    refine Ret.at (impl_isZero_c hcr) ?_
    rintro v W1 ⟨hv, y1⟩
    subst hv
    refine ⟨_, rfl, fun hz => ?_, fun hnz => ?_⟩
    · rw [show zeroM [.str cc, .bool cb, .ints cz] = true from hz, if_pos rfl, List.append_nil] at hper
      exact fin W1 buf s rr (chan_ext hch y1) (by rw [<- hper]; exact hbo.ext y1) (hX.trans y1)
    · rw [show zeroM [.str cc, .bool cb, .ints cz] = false from hnz, if_neg (by decide)] at hper
      refine ⟨_, _, _, _, _, (hb0.ext y1).loadA0 (by kernel_rfl), _, _, _, _, _, (hb1.ext y1).loadA0 (by kernel_rfl), _, _, _, _, _, (hb2.ext y1).loadA0 (by kernel_rfl), ?_⟩
      have X1 := hX.trans y1
      refine Ret.at (impl_NextRow_c (hcr.ext y1) hcc (gr.ext X1) gc (kr.ext X1) kc mode (ht.ext X1)) ?_
      rintro v W2 ⟨vs', f, hv, ho, hnd, hcode, _, y2⟩
      subst hv
      generalize hnt : nextT [.str cc, .bool cb, .ints cz] dr dp mode = nt at ho hcode hper ⊢
      obtain ⟨ok, row⟩ := nt
      simp only at ho hcode hper ⊢
      have hlc := chan_lt hch
      have l1 := y1.le; have l2 := y2.le
      have ho2 := ho
      obtain ⟨a0, a1, a2p, a2n, a2c, a2z, a3, a4, a5p, a5n, a5c, a5z, a6, a7, a8p, a8n, a8c, a8z, rfl, hrd, h2i, h5i, h8i⟩ := open_Row ho.reps hcode
      refine ⟨_, _, _, _, _, _, _, _, _, _, _, _, _, _, _, _, rfl, ?_⟩
      intro r4 W3 hn5
      have e5 := hn5.r_eq
      obtain ⟨W4, st4, hb4, y4⟩ := hn5.fill (P := P) (t := T_impl_Row) (xs := [.string a0, .bool a1, .slice a2p a2n a2c, .string a3, .bool a4, .slice a5p a5n a5c, .string a6, .bool a7, .slice a8p a8n a8c]) (by simp [Value.oneCell']) (by kernel_rfl) rfl
      have X4 := (X1.trans y2).trans y4
      have Y4 := (y1.trans y2).trans y4
      have hch5 := chan_ext hch Y4
      have l4 := y4.le
      have hbl := hb0.lt
      have ho4 : Owns W4 (ch + 1) [.string a0, .bool a1, .slice a2p a2n a2c, .string a3, .bool a4, .slice a5p a5n a5c, .string a6, .bool a7, .slice a8p a8n a8c] row f := (ho2.ext y4).mono (by omega)
      have hbo4 := hbo.ext Y4
      obtain ⟨W5, hW5⟩ : ∃ x, x = W4.setChan ch 24 (buf.push (.agg ⟨[.string a0, .bool a1, .slice a2p a2n a2c, .string a3, .bool a4, .slice a5p a5n a5c, .string a6, .bool a7, .slice a8p a8n a8c] ++ [.bool ok]⟩)) false (s + 1) rr false := ⟨_, rfl⟩
      have hcg : Chg [ch] W4 W5 := by rw [hW5]; exact setChan_chg
      have hch6 : W5.heap[ch]? = some (.chan 24 (buf.push (.agg ⟨[.string a0, .bool a1, .slice a2p a2n a2c, .string a3, .bool a4, .slice a5p a5n a5c, .string a6, .bool a7, .slice a8p a8n a8c] ++ [.bool ok]⟩)) false (s + 1) rr false) := by
        rw [hW5]; exact heap_setChan _ _ _ _ _ _ _ _ (chan_lt hch5)
      have hs5 : W5.heap.size = W4.heap.size := by rw [hW5]; exact size_setChan _ _ _ _ _ _ _ _
      have hb5 := hb4.chg hcg (by simp; omega)
      have ho5 := ho4.chg1 hcg (Nat.lt_succ_self _)
      have hbo5 : ChO W5 (ch + 1) (buf.push (.agg ⟨[.string a0, .bool a1, .slice a2p a2n a2c, .string a3, .bool a4, .slice a5p a5n a5c, .string a6, .bool a7, .slice a8p a8n a8c] ++ [.bool ok]⟩)).toList (done ++ [(ok, row)]) := by
        rw [Array.toList_push]
        exact ChO.snoc (p := (ok, row)) ho5 (hbo4.chg (Nat.lt_succ_self _) hcg)
      have X5 : Ext w W5 := X4.chg hcg (by simp; omega)
      refine ⟨W4, st4, _, _, _, _, _, _, _, _, _, _, _, _, _, _, _, hb4.loadA0 (by kernel_rfl), W5, ⟨ch, 24, buf, s, rr, false, rfl, hch5, by omega, hW5⟩, ifN (fun hno => ?_) (fun hyes => ?_)⟩
      · subst hno
        rw [if_neg (by decide)] at hper
        refine fin W5 _ _ _ hch6 ?_ X5
        rw [<- hper]
        exact hbo5
      · subst hyes
        rw [if_pos rfl] at hper
        have hbr := (((hb0.ext Y4).chg hcg (by simp; omega)))
        obtain ⟨W6, st6, hb6, cg6, sz6⟩ := hbr.storeA0 (P := P) (t := T_impl_Money) (xs := [.string a6, .bool a7, .slice a8p a8n a8c]) (by kernel_rfl) rfl (by simp [Value.oneCell'])
        obtain ⟨g6, ho6, _⟩ := Owns.drops 6 ho5
        have h6 : Reps W6 [.string a6, .bool a7, .slice a8p a8n a8c] (row.drop 6) := (ho6.chg1 cg6 (by omega)).reps
        refine ⟨_, _, _, _, _, hb5.loadAAt 6 [.string a6, .bool a7, .slice a8p a8n a8c] (by rw [addr_add]) (by kernel_rfl) rfl, W6, st6, ?_⟩
        refine exW ⟨by omega, by omega⟩ ⟨⟨j + 1, _, row.drop 6, _, s + 1, rr, done ++ [(true, row)], by omega, by omega, hb6, ?_, ?_, drop6_code hcode, h6, chan_chg hch6 cg6 (by simp; omega), by simp [hsz], hbo5.chg (by omega) cg6, ?_, X5.chg cg6 (by simp; omega)⟩, ?_⟩
        · exact ((hb1.ext Y4).chg hcg (by simp; omega)).chg cg6 (by simp; omega)
        · exact ((hb2.ext Y4).chg hcg (by simp; omega)).chg cg6 (by simp; omega)
        · rw [List.append_assoc]; exact hper
        · show n - ((j : Int) + 1).toNat < n - (j : Int).toNat
          omega
  · have hjn : n - j = 0 := by omega
    rw [hjn] at hper
    simp only [perL, List.append_nil] at hper
    exact fin W buf s rr hch (by rw [<- hper]; exact hbo) hX
end Go.Proofs.YtbgokfhcgcoipaaDoor
namespace Go.Proofs.YtbgokfhcgcoipaaDoor
open Go Go.Proofs.YtbgokfhcgcoipaaDoor.Sx
theorem Sx.OwnRows.blk_mem {w : World} {B : Nat} {e : TypeId} {k : Nat} {p : Option Addr} {n c : Nat} {l : List (List D0)} {f : List Nat} (h : OwnRows w B e k p n c l f) : ∀ q ∈ (p.map (·.block)).toList, q ∈ f := by
  obtain ⟨_, css, fs, _, _, rfl, _⟩ := h
  exact fun q hq => List.mem_append_left _ hq
theorem cntL_le {l : List (List D0)} {k : Int} (h : ∀ x ∈ l, cnts x <= k) : cntL l <= l.length * k := by
  induction l with
  | nil => simp [cntL]
  | cons a r ih =>
    have h1 := h a List.mem_cons_self
    have h2 := ih fun x hx => h x (List.mem_cons_of_mem _ hx)
    show cnts a + cntL r <= _
    rw [List.length_cons, Int.natCast_add, Int.add_mul]
    omega
end Go.Proofs.YtbgokfhcgcoipaaDoor
namespace Go.Proofs.YtbgokfhcgcoipaaDoor
open Go Go.Conc Go.Proofs.YtbgokfhcgcoipaaDoor.Sx
theorem sliceT_row : sliceT P T_s_impl_Row T_impl_Row (.agg ⟨[.string ByteArray.empty, .bool false, .slice none 0 0, .string ByteArray.empty, .bool false, .slice none 0 0, .string ByteArray.empty, .bool false, .slice none 0 0]⟩) 9 144 := ⟨by kernel_rfl, by kernel_rfl, rfl, by decide⟩
theorem no_rowsP (w : World) (B : Nat) (e : TypeId) (k : Nat) : OwnRows w B e k none 0 0 [] [] := ⟨rfl, [], [], trivial, Own.nil _ _ _ _, by simp, by simp⟩
theorem nextT_yes {dx dr dp : List D0} {m : Int} (h : (nextT dx dr dp m).1 = true) : ∃ c i p l, (nextT dx dr dp m).2 = rowOf c i p l /\ c.size <= 50 /\ (digs i.natAbs).length <= 6 /\ (digs p.natAbs).length <= 6 /\ (digs l.natAbs).length <= 6 := by
  unfold nextT at h ⊢
  split at h
  · split at h
    · rename_i c b z c2 b2 z2 hh
      rw [if_pos hh]
      simp only [Bool.and_eq_true, Bool.not_eq_true'] at hh
      obtain ⟨⟨hal, hb, hb2⟩, ht, hm⟩ := hh
      have h1 := (taxOnT_yes ht hb).2.1
      obtain ⟨m1, m2, _⟩ := alk_parts hal
      have h1 := money_len h1; have h3 := money_len hm
      have g2 : (digs (ival [.bool b2, .ints z2]).natAbs).length <= 4 := by
        have := (intOk_enc (moneyOk_int m2)).1
        have hh := m2
        rw [this] at hh
        exact money_len hh
      have LD := money_lim hm
      have LQ := money_bound m2
      have hs50 := money_str hm
      subst hb2
      generalize ival [.bool b, .ints z] + moneyVal (taxOnT [.str c, .bool b, .ints z] dr m).2.1 = N at *
      generalize ival [.bool false, .ints z2] = Q at *
      refine ⟨c, _, _, _, rfl, hs50, by omega, ?_, ?_⟩
      · unfold lesser; split <;> exact digs_len_le (by omega)
      · unfold lesser; split <;> exact digs_len_le (by omega)
    · cases h
  · cases h
theorem nextT_bulk {dx dr dp : List D0} {m : Int} (h : (nextT dx dr dp m).1 = true) : bulks (nextT dx dr dp m).2 <= 1000 := by
  obtain ⟨c, i, p, l, e, h1, h2, h3, h4⟩ := nextT_yes h
  rw [e]
  simp only [rowOf, enc, bulks, D0.bulk, List.cons_append, List.nil_append, List.map_cons, List.map_nil, List.sum_cons, List.sum_nil]
  omega
theorem perL_bulk (dr dp : List D0) (m : Int) : ∀ (k : Nat) (cur : List D0), ∀ x ∈ perL k cur dr dp m, x.1 = true -> bulks x.2 <= 1000
  | 0, _, x, h, _ => by simp [perL] at h
  | k + 1, cur, x, h, hx => by
    unfold perL at h
    split at h
    · simp at h
    · rcases List.mem_cons.1 h with e | e
      · rw [e] at hx ⊢; exact nextT_bulk hx
      · split at e
        · exact perL_bulk dr dp m k _ x e hx
        · simp at e
theorem perL_six (dr dp : List D0) (m : Int) : ∀ (k : Nat) (cur : List D0), ∀ x ∈ perL k cur dr dp m, x.1 = true -> ∃ c i p l, x.2 = rowOf c i p l /\ c.size <= 50 /\ (digs i.natAbs).length <= 6 /\ (digs p.natAbs).length <= 6 /\ (digs l.natAbs).length <= 6
  | 0, _, x, h, _ => by simp [perL] at h
  | k + 1, cur, x, h, hx => by
    unfold perL at h
    split at h
    · simp at h
    · rcases List.mem_cons.1 h with e | e
      · rw [e] at hx ⊢; exact nextT_yes hx
      · split at e
        · exact perL_six dr dp m k _ x e hx
        · simp at e
def ChP (A : Nat -> Prop) (W : World) : List Value -> List (Bool × List D0) -> Prop
  | [], [] => True
  | v :: vs, p :: ps => (∃ cs f, v = .agg ⟨cs ++ [.bool p.1]⟩ /\ Owns W 0 cs p.2 f /\ ∀ q ∈ f, A q) /\ ChP A W vs ps
  | _, _ => False
theorem ChP.of {W : World} {B : Nat} {A : Nat -> Prop} (hA : ∀ q, B <= q -> q < W.heap.size -> A q) : ∀ {vs : List Value} {ps : List (Bool × List D0)}, ChO W B vs ps -> ChP A W vs ps
  | [], [], _ => trivial
  | [], _ :: _, h => h.elim
  | _ :: _, [], h => h.elim
  | _ :: _, _ :: _, ⟨⟨cs, f, hv, ho⟩, h⟩ => ⟨⟨cs, f, hv, ho.mono (Nat.zero_le _), fun q hq => hA q (ho.lt q hq).1 (ho.lt q hq).2⟩, ChP.of hA h⟩
theorem ChP.ext {A : Nat -> Prop} {W W' : World} : ∀ {vs : List Value} {ps : List (Bool × List D0)}, ChP A W vs ps -> Ext W W' -> ChP A W' vs ps
  | [], [], _, _ => trivial
  | [], _ :: _, h, _ => h.elim
  | _ :: _, [], h, _ => h.elim
  | _ :: _, _ :: _, ⟨⟨cs, f, hv, ho, hf⟩, h⟩, he => ⟨⟨cs, f, hv, ho.ext he, hf⟩, ChP.ext h he⟩
theorem ChP.chg {A : Nat -> Prop} {S : List Nat} {W W' : World} (hS : ∀ q, A q -> q ∉ S) : ∀ {vs : List Value} {ps : List (Bool × List D0)}, ChP A W vs ps -> Chg S W W' -> ChP A W' vs ps
  | [], [], _, _ => trivial
  | [], _ :: _, h, _ => h.elim
  | _ :: _, [], h, _ => h.elim
  | _ :: _, _ :: _, ⟨⟨cs, f, hv, ho, hf⟩, h⟩, he => ⟨⟨cs, f, hv, ho.chg he (fun k hk => hS k (hf k hk)), hf⟩, ChP.chg hS h he⟩
theorem zeroM_eq {cur : List D0} (hc : cur.map D0.code = [.str, .bool, .ints]) (hok : intOk (cur.drop 1) = true) : zeroM cur = decide (isign (cur.drop 1) = 0) := by
  match cur, hc, hok with
  | [.str s, .bool b, .ints z], _, hok =>
    show (intOk [.bool b, .ints z] && decide (isign [.bool b, .ints z] = 0)) = decide (isign [.bool b, .ints z] = 0)
    rw [show intOk [.bool b, .ints z] = true from hok]; rfl
theorem impl_Plan_o {w : World} {xs ys zs : List Value} {dx dr dp : List D0} (h : Reps w xs dx) (hc : dx.map D0.code = [.str, .bool, .ints]) (g : Reps w ys dr) (gc : dr.map D0.code = [.bool, .ints, .int]) (k : Reps w zs dp) (kc : dp.map D0.code = [.str, .bool, .ints]) (n mode : Int) (ht : Tab w) :
    Ret P 12 [.agg ⟨xs⟩, .agg ⟨ys⟩, .agg ⟨zs⟩, .int .i64 n, .int .i64 mode] w fun v w' => ∃ p j c f, v = .tuple #[.slice p j c, .bool (planT n dx dr dp mode).1] /\ OwnRows w' w.heap.size T_impl_Row 9 p j c (planT n dx dr dp mode).2 f /\ Ext w w' := by
  have hr := h; have gr := g; have kr := k
  obtain ⟨c0, b0, ap, an, ac, z0, rfl, hdx, ha⟩ := open_Money h hc
  obtain ⟨d0, dp', dn, dc, dz, ds, rfl, hdr, hd⟩ := open_Dec g gc
  obtain ⟨c2, b2, bp, bn, bc, z2, rfl, hdp, hb⟩ := open_Money k kc
  refine impl_Plan_ret ?_
  unfold impl_Plan
  intro r w1 hn1 r1 w2 hn2 r2 w3 hn3
  have e1 := hn1.r_eq; have e2 := hn2.r_eq; have e3 := hn3.r_eq; have s1 := hn1.size; have s2 := hn2.size; have s3 := hn3.size
  have X := (hn1.ext.trans hn2.ext).trans hn3.ext
  have q0 := (hn1.blk.ext hn2.ext).ext hn3.ext; have q1 := hn2.blk.ext hn3.ext; have q2 := hn3.blk
  have no : ∀ W, Ext w W -> planT n dx dr dp mode = (false, []) -> ∃ p j c f, Value.tuple #[.slice none 0 0, .bool false] = .tuple #[.slice p j c, .bool (planT n dx dr dp mode).1] /\ OwnRows W w.heap.size T_impl_Row 9 p j c (planT n dx dr dp mode).2 f /\ Ext w W := by
    intro W hW he
    rw [he]
    exact ⟨none, 0, 0, [], rfl, no_rowsP _ _ _ _, hW⟩
  have main : 1 <= n -> n <= 24 -> alk dx dp = true -> ∀ W, Ext w3 W -> impl_Plan_j0 n mode r r1 r2 W fun v w' => ∃ p j c f, v = .tuple #[.slice p j c, .bool (planT n dx dr dp mode).1] /\ OwnRows w' w.heap.size T_impl_Row 9 p j c (planT n dx dr dp mode).2 f /\ Ext w w' := by
    intro hn1' hn24 hal W hW
    obtain ⟨N, rfl⟩ : ∃ N : Nat, n = N := ⟨n.toNat, by omega⟩
    have hplan : planT N dx dr dp mode = if (perL N dx dr dp mode).all (fun x => x.1) then (true, (perL N dx dr dp mode).map (fun x => x.2)) else (false, []) := by
      unfold planT
      rw [decide_eq_true hn1', decide_eq_true hn24, hal, Int.toNat_natCast]
      simp only [Bool.true_and]
    unfold impl_Plan_j0
    intro r3 w4 hn4
    have X3 := X.trans hW
    have Y4 := hW.trans hn4.ext
    have X4 := X.trans Y4
    have lW := hW.le; have e4 := hn4.r_eq; have s4 := hn4.size
    refine ⟨_, _, _, _, _, (q0.ext Y4).loadA0 (by kernel_rfl), _, _, _, _, _, (q1.ext Y4).loadA0 (by kernel_rfl), _, _, _, _, _, (q2.ext Y4).loadA0 (by kernel_rfl), ?_⟩
    refine Ret.at (impl_periods_c (hr.ext X4) hc (gr.ext X4) gc (kr.ext X4) kc N (by omega) mode (ht.ext X4)) ?_
    rintro v w5 ⟨ch, buf, s, rr, hv, hle, hch, hbo, y5⟩
    subst hv
    have X5 := X4.trans y5
    have hclt := chan_lt hch
    have hbo2 := ChP.of (A := fun q => ch + 1 <= q /\ q < w5.heap.size) (fun q h1 h2 => ⟨h1, h2⟩) hbo
    refine ⟨_, rfl, fun lp ln lc W => ∃ (rest done : List (Bool × List D0)) (buf : Array Value) (s rr : Nat) (f : List Nat), done ++ rest = perL N dx dr dp mode /\ done.all (fun x => x.1) = true /\ OwnRows W w.heap.size T_impl_Row 9 lp ln lc (done.map (fun x => x.2)) f /\
        W.heap[ch]? = some (.chan 24 buf true s rr false) /\ ChP (fun q => ch + 1 <= q /\ q < w5.heap.size) W buf.toList rest /\ (∀ q ∈ f, q = r3 ∨ w5.heap.size <= q) /\ Ext w W /\ w5.heap.size <= W.heap.size, fun _ ln _ _ => 25 - ln,
      ⟨perL N dx dr dp mode, [], buf, s, rr, [r3], rfl, rfl, ((OwnRows.fresh hn4 (by have := X3.le; omega)).ext y5), hch, hbo2, fun q hq => .inl (by simpa using hq), X5, Nat.le_refl _⟩, ?_⟩
    rintro junk W lp ln lc ⟨rest, done, buf, s, rr, f, hper, hall, hO, hch, hbo, hf, hX, hsz⟩
    have hl : done.length = ln := by
      have := hO.1
      simpa using this
    have hlen : done.length + rest.length <= N := by
      have := perL_len dr dp mode N dx
      rw [<- hper, List.length_append] at this
      exact this
    have hclt2 := chan_lt hch
    cases rest with
    | nil =>
      have hb0 : buf = #[] := by
        cases hbl : buf.toList with
        | nil => exact Array.toList_eq_nil_iff.1 hbl
        | cons a b => rw [hbl] at hbo; exact hbo.elim
      subst hb0
      refine ⟨ByteArray.empty, false, none, 0, 0, ByteArray.empty, false, none, 0, 0, ByteArray.empty, false, none, 0, 0, false, false, W, ⟨ch, rfl, .inr ⟨24, s, rr, false, hch, rfl, rfl⟩⟩, ifF ?_⟩
      rw [List.append_nil] at hper
      rw [hplan, <- hper, hall, if_pos rfl]
      exact ⟨lp, ln, lc, f, rfl, hO, hX⟩
    | cons pr rest =>
      obtain ⟨ok, row⟩ := pr
      cases hbl : buf.toList with
      | nil => rw [hbl] at hbo; exact hbo.elim
      | cons v0 vs0 =>
        rw [hbl] at hbo
        obtain ⟨⟨cs, fr, hv0, hor, hfr⟩, hbo⟩ := hbo
        have hmem : (ok, row) ∈ perL N dx dr dp mode := by rw [<- hper]; simp
        have hcode := perL_code dr dp mode N dx _ hmem
        simp only at hcode hor hv0
        have hor2 := hor
        obtain ⟨a0, a1, a2p, a2n, a2c, a2z, a3, a4, a5p, a5n, a5c, a5z, a6, a7, a8p, a8n, a8c, a8z, rfl, hrd, h2i, h5i, h8i⟩ := open_Row hor.reps hcode
        have hbsz : 0 < buf.size := by
          have : buf.toList.length = buf.size := rfl
          rw [<- this, hbl]; simp
        have hget : buf.getD 0 undef = v0 := by
          have : buf[0]? = some v0 := by rw [<- Array.getElem?_toList, hbl]; rfl
          rw [Array.getD_eq_getD_getElem?, this]; rfl
        have htl : (buf.extract 1 buf.size).toList = vs0 := by
          rw [Array.toList_extract, hbl, List.extract_eq_take_drop]
          have : buf.size = vs0.length + 1 := by
            have : buf.toList.length = buf.size := rfl
            rw [<- this, hbl]; simp
          rw [this]; simp
        obtain ⟨W6, hW6⟩ : ∃ x, x = W.setChan ch 24 (buf.extract 1 buf.size) true s (rr + 1) false := ⟨_, rfl⟩
        have cg6 : Chg [ch] W W6 := by rw [hW6]; exact setChan_chg
        have sz6 : W6.heap.size = W.heap.size := by rw [hW6]; exact size_setChan _ _ _ _ _ _ _ _
        have hch6 : W6.heap[ch]? = some (.chan 24 (buf.extract 1 buf.size) true s (rr + 1) false) := by rw [hW6]; exact heap_setChan _ _ _ _ _ _ _ _ (chan_lt hch)
        have hlw5 := y5.le
        have hX4 := X4.le
        have X6 : Ext w W6 := hX.chg cg6 (by simp; omega)
        have hor6 := hor2.chg cg6 (fun q hq => by have := hfr q hq; simp; omega)
        have hO6 := hO.chg cg6 (fun q hq => by have := hf q hq; simp; omega)
        have hbo6 : ChP (fun q => ch + 1 <= q /\ q < w5.heap.size) W6 (buf.extract 1 buf.size).toList rest := by rw [htl]; exact hbo.chg (fun q hq => by simp; omega) cg6
        refine ⟨a0, a1, a2p, a2n, a2c, a3, a4, a5p, a5n, a5c, a6, a7, a8p, a8n, a8c, ok, true, W6, ⟨ch, rfl, .inl ⟨24, buf, true, s, rr, false, hch, hbsz, ?_, hW6⟩⟩, ifT ?_⟩
        · rw [hget, hv0]; rfl
        intro r4 w7 hn7
        have e7 := hn7.r_eq
        obtain ⟨w8, st8, hb8, y8⟩ := hn7.fill (P := P) (t := T_impl_period) (xs := [.string a0, .bool a1, .slice a2p a2n a2c, .string a3, .bool a4, .slice a5p a5n a5c, .string a6, .bool a7, .slice a8p a8n a8c, .bool ok]) (by simp [Value.oneCell']) (by kernel_rfl) rfl
        have l8 := y8.le
        refine ⟨w8, st8, ok, hb8.loadAt 9 (by rw [addr_add]) (by kernel_rfl) rfl, ifN (fun hno => ?_) (fun hyes => ?_)⟩
        · refine no w8 (X6.trans y8) ?_
          rw [hplan, if_neg]
          rw [<- hper, List.all_append, Bool.and_eq_true, List.all_cons, hno]
          simp
        · subst hyes
          have hbk := perL_bulk dr dp mode N dx _ hmem rfl
          simp only [hrd, bulks, D0.bulk, List.map_cons, List.map_nil, List.sum_cons, List.sum_nil] at hbk
          refine ⟨_, _, _, _, _, _, _, _, _, _, _, _, _, _, _, hb8.loadAAt 0 [.string a0, .bool a1, .slice a2p a2n a2c, .string a3, .bool a4, .slice a5p a5n a5c, .string a6, .bool a7, .slice a8p a8n a8c] (by rw [addr_add]) (by kernel_rfl) rfl, ?_⟩
          intro r5 w9 hn9
          have e9 := hn9.r_eq
          obtain ⟨w10, st10, hb10, y10⟩ := hn9.fill (P := P) (t := T_impl_Row) (xs := [.string a0, .bool a1, .slice a2p a2n a2c, .string a3, .bool a4, .slice a5p a5n a5c, .string a6, .bool a7, .slice a8p a8n a8c]) (by simp [Value.oneCell']) (by kernel_rfl) rfl
          have D := Ext.drew w10
          have Y11 := ((y8.trans y10).trans D)
          have hb11 := hb10.ext D
          have l11 := Y11.le
          have hor11 := (hor6.ext Y11).reps
          rw [hrd] at hor11
          have hp0 : Reps w10.drew [.string a0, .bool a1, .slice a2p a2n a2c] [.str a0, .bool a1, .ints a2z] := ⟨hor11.1, hor11.2.1, hor11.2.2.1, trivial⟩
          have hp1 : Reps w10.drew [.string a3, .bool a4, .slice a5p a5n a5c] [.str a3, .bool a4, .ints a5z] := ⟨hor11.2.2.2.1, hor11.2.2.2.2.1, hor11.2.2.2.2.2.1, trivial⟩
          have hp2 : Reps w10.drew [.string a6, .bool a7, .slice a8p a8n a8c] [.str a6, .bool a7, .ints a8z] := ⟨hor11.2.2.2.2.2.2.1, hor11.2.2.2.2.2.2.2.1, hor11.2.2.2.2.2.2.2.2.1, trivial⟩
          refine ⟨w10, st10, _, _, _, _, _, fun W hW => (hb11.ext hW).loadAAt 0 [.string a0, .bool a1, .slice a2p a2n a2c] (by rw [addr_add]) (by kernel_rfl) rfl, ?_⟩
          refine Ret.at (impl_moneyCopy_c hp0 rfl (by simp [bulks, D0.bulk]; omega)) ?_
          rintro v w12 ⟨v1, f1, hv, o1, nd1, y12⟩
          subst hv
          obtain ⟨g0, g1, g2p, g2n, g2c, g2z, rfl, hg, _⟩ := open_Money o1.reps rfl
          refine ⟨_, _, _, _, _, rfl, y12, _, _, _, _, _, fun W hW => (hb11.ext hW).loadAAt 3 [.string a3, .bool a4, .slice a5p a5n a5c] (by rw [addr_add]) (by kernel_rfl) rfl, ?_⟩
          refine Ret.at (impl_moneyCopy_c (hp1.ext y12) rfl (by simp [bulks, D0.bulk]; omega)) ?_
          rintro v w13 ⟨v2, f2, hv, o2, nd2, y13⟩
          subst hv
          obtain ⟨k0, k1, k2p, k2n, k2c, k2z, rfl, hk, _⟩ := open_Money o2.reps rfl
          refine ⟨_, _, _, _, _, rfl, y13, _, _, _, _, _, fun W hW => (hb11.ext hW).loadAAt 6 [.string a6, .bool a7, .slice a8p a8n a8c] (by rw [addr_add]) (by kernel_rfl) rfl, ?_⟩
          refine Ret.at (impl_moneyCopy_c (hp2.ext (y12.trans y13)) rfl (by simp [bulks, D0.bulk]; omega)) ?_
          rintro v w14 ⟨v3, f3, hv, o3, nd3, y14⟩
          subst hv
          obtain ⟨m0, m1, m2p, m2n, m2c, m2z, rfl, hm, _⟩ := open_Money o3.reps rfl
          refine ⟨_, _, _, _, _, rfl, ?_⟩
          intro r6 w15 hn15
          have l12 := y12.le; have l13 := y13.le; have l14 := y14.le
          have Z := (Y11.trans y12).trans (y13.trans (y14.trans hn15.ext))
          have lZ := Z.le
          have X15 := X6.trans Z
          have oo1 : Owns w15 w10.drew.heap.size [.string g0, .bool g1, .slice g2p g2n g2c] [.str a0, .bool a1, .ints a2z] f1 := ((o1.ext y13).ext y14).ext hn15.ext
          have oo2 : Owns w15 w10.drew.heap.size [.string k0, .bool k1, .slice k2p k2n k2c] [.str a3, .bool a4, .ints a5z] f2 := ((o2.ext y14).ext hn15.ext).mono l12
          have oo3 : Owns w15 w10.drew.heap.size [.string m0, .bool m1, .slice m2p m2n m2c] [.str a6, .bool a7, .ints a8z] f3 := (o3.ext hn15.ext).mono (Nat.le_trans l12 l13)
          have oo := Owns.append oo1 (Owns.append oo2 oo3)
          have t1 := o1.lt; have t2 := o2.lt; have t3 := o3.lt
          have ndd : (f1 ++ (f2 ++ f3)).Nodup := nodup_append nd1 (nodup_append nd2 nd3 (fun q hq => (t2 q hq).2) (fun q hq => (t3 q hq).1)) (fun q hq => (t1 q hq).2) (fun q hq => by
            rcases List.mem_append.1 hq with hq | hq
            · exact (t2 q hq).1
            · exact Nat.le_trans l13 (t3 q hq).1)
          have hfl : ∀ q ∈ f1 ++ (f2 ++ f3), w10.drew.heap.size <= q := fun q hq => (oo.lt q hq).1
          have hOl := hO6.lt
          have hwl := X.le
          obtain ⟨p', c', w16, f', ha16, hO16, ch16, hf16⟩ := OwnRows_pushF (P := P) (hO6.ext Z) sliceT_row (by have := X15.le; omega) hn15.blk rfl (oo.mono (B' := w.heap.size) (by have := X6.le; omega)) ndd (fun q hq hm => by
            have := hfl q hq; have := (hOl q hm).2; omega) (by omega) (by omega)
          have hblk := hO6.blk_mem
          have notS : ∀ q, (ch + 1 <= q /\ q < w5.heap.size) -> q ∉ (lp.map (·.block)).toList := fun q hq hm => by
            have := hf q (hO.blk_mem q hm); omega
          refine ⟨p', ln + 1, c', w16, ha16, ⟨rest, done ++ [(true, row)], _, s, rr + 1, f', by rw [List.append_assoc]; exact hper, by rw [List.all_append, hall]; rfl, ?_, chan_chg (chan_ext hch6 Z) ch16 (fun hm => by have := hf _ (hO.blk_mem _ hm); omega), (hbo6.ext Z).chg notS ch16, fun q hq => ?_, X15.chg ch16 (fun q hm => (hO.lt q (hO.blk_mem q hm)).1), by have := ch16.size; omega⟩, ?_⟩
          · rw [List.map_append, hrd]
            exact hO16
          · rcases hf16 q hq with hq | hq | hq
            · exact hf q hq
            · have := hfl q hq; exact .inr (by omega)
            · exact .inr (by omega)
          · show 25 - (ln + 1) < 25 - ln
            omega
  refine ifD (fun hlt => ifT (ifT (no w3 X ?_))) (fun hge => ifD (fun hgt => ifT (no w3 X ?_)) (fun hle => ?_))
  · unfold planT
    rw [decide_eq_false (show ¬ (1 <= n) by omega)]; rfl
  · unfold planT
    rw [decide_eq_false (show ¬ (n <= 24) by omega), Bool.and_false]; rfl
  · refine ⟨_, _, _, _, _, q0.loadA0 (by kernel_rfl), _, _, _, _, _, q2.loadA0 (by kernel_rfl), ?_⟩
    subst hdx hdp
    refine Ret.at (impl_alike_c (hr.ext X) (kr.ext X) (ht.ext X)) ?_
    rintro v w4 ⟨hv, y4⟩
    subst hv
    refine ⟨_, rfl, ifN (fun hno => no w4 (X.trans y4) ?_) (fun hyes => main (by omega) (by omega) hyes w4 y4)⟩
    unfold planT
    rw [hno, Bool.false_and, Bool.and_false]; rfl
theorem planT_code (n : Int) (dx dr dp : List D0) (m : Int) : ∀ x ∈ (planT n dx dr dp m).2, x.map D0.code = [.str, .bool, .ints, .str, .bool, .ints, .str, .bool, .ints] := by
  unfold planT
  split
  · intro x hx
    obtain ⟨y, hy, rfl⟩ := List.mem_map.1 hx
    exact perL_code dr dp m _ _ y hy
  · intro x hx; simp at hx
theorem planT_cnt (n : Int) (dx dr dp : List D0) (m : Int) : cntL (planT n dx dr dp m).2 <= 1000000000 := by
  unfold planT
  split
  · rename_i h
    simp only [Bool.and_eq_true, decide_eq_true_eq, List.all_eq_true] at h
    have hl := perL_len dr dp m n.toNat dx
    have := cntL_le (l := (perL n.toNat dx dr dp m).map (fun x => x.2)) (k := 100) (fun x hx => by
      obtain ⟨y, hy, rfl⟩ := List.mem_map.1 hx
      have hb := perL_bulk dr dp m _ _ y hy (h.2.2 y hy)
      have hc := perL_code dr dp m _ _ y hy
      have hy6 := perL_six dr dp m _ _ y hy (h.2.2 y hy)
      obtain ⟨c, i, p, l, e, h1, h2, h3, h4⟩ := hy6
      rw [e]
      simp only [rowOf, enc, List.cons_append, List.nil_append, cnts, D0.cnt]
      omega)
    rw [List.length_map] at this
    simp only
    omega
  · simp [cntL]
theorem impl_Plan_c {w : World} {xs ys zs : List Value} {dx dr dp : List D0} (h : Reps w xs dx) (hc : dx.map D0.code = [.str, .bool, .ints]) (g : Reps w ys dr) (gc : dr.map D0.code = [.bool, .ints, .int]) (k : Reps w zs dp) (kc : dp.map D0.code = [.str, .bool, .ints]) (n mode : Int) (ht : Tab w) :
    Ret P 12 [.agg ⟨xs⟩, .agg ⟨ys⟩, .agg ⟨zs⟩, .int .i64 n, .int .i64 mode] w fun v w' => ∃ p' n' c' f, v = .tuple #[.slice p' n' c', .bool (planT n dx dr dp mode).1] /\ OwnRows w' w.heap.size T_impl_Row 9 p' n' c' (planT n dx dr dp mode).2 f /\ (∀ x ∈ (planT n dx dr dp mode).2, x.map D0.code = [.str, .bool, .ints, .str, .bool, .ints, .str, .bool, .ints]) /\ cntL (planT n dx dr dp mode).2 <= 1000000000 /\ Ext w w' :=
  (impl_Plan_o h hc g gc k kc n mode ht).mono fun v w' ⟨p', n', c', f, hv, ho, hx⟩ => ⟨p', n', c', f, hv, ho, planT_code _ _ _ _ _, planT_cnt _ _ _ _ _, hx⟩
end Go.Proofs.YtbgokfhcgcoipaaDoor
namespace Go.Proofs.YtbgokfhcgcoipaaDoor
open Go Go.Proofs.YtbgokfhcgcoipaaDoor.Sx
def halfC (r d : Nat) : Int := if 2 * r < d then -1 else if 2 * r = d then 0 else 1
def rN (n d : Nat) (m : Int) : Nat := if n % d ≠ 0 /\ modeAway m false (halfC (n % d) d) (decide (n / d % 2 = 1)) = true then n / d + 1 else n / d
theorem rN_lo (n d : Nat) (m : Int) : n / d <= rN n d m := by unfold rN; split <;> omega
theorem rN_hi (n d : Nat) (m : Int) : rN n d m <= n / d + 1 := by unfold rN; split <;> omega
theorem away_mono {m : Int} {h h' : Int} {odd : Bool} (hh : h <= h') (h0 : h = 0 -> h' = 0 ∨ 0 < h') (ha : modeAway m false h odd = true) : modeAway m false h' odd = true := by
  unfold modeAway at ha ⊢
  split at ha
  · cases ha
  · rename_i h1
    rw [if_neg h1]
    split at ha
    · rename_i h2; rw [if_pos h2]
    · rename_i h2
      rw [if_neg h2]
      split at ha
      · cases ha
      · rename_i h3
        rw [if_neg h3]
        split at ha
        · rename_i h4; rw [if_pos h4]; rfl
        · rename_i h4
          rw [if_neg h4]
          split at ha
          · rename_i h5
            rw [if_pos h5]
            exact decide_eq_true (Int.lt_of_lt_of_le (of_decide_eq_true ha) hh)
          · rename_i h5
            rw [if_neg h5]
            split at ha
            · rename_i h6
              rw [if_pos h6]
              exact decide_eq_true (Int.le_trans (of_decide_eq_true ha) hh)
            · rename_i h6
              rw [if_neg h6]
              rw [Bool.or_eq_true, Bool.and_eq_true, decide_eq_true_eq, decide_eq_true_eq] at ha ⊢
              rcases ha with ha | ⟨ha, hb⟩
              · exact .inl (by omega)
              · rcases h0 ha with h | h
                · exact .inr ⟨h, hb⟩
                · exact .inl h
theorem halfC_mono {r d r' d' : Nat} (hd : 0 < d) (hd' : 0 < d') (h : r * d' <= r' * d) : halfC r d <= halfC r' d' := by
  have key : ∀ {a b : Nat}, a * d' <= b * d -> True := fun _ => trivial
  have h2 : 2 * r * d' <= 2 * r' * d := by rw [Nat.mul_assoc, Nat.mul_assoc]; exact Nat.mul_le_mul_left 2 h
  unfold halfC
  by_cases c1 : 2 * r < d
  · rw [if_pos c1]; split <;> (try split) <;> omega
  · rw [if_neg c1]
    by_cases c2 : 2 * r = d
    · rw [if_pos c2]
      have : ¬ 2 * r' < d' := fun c => by
        have h3 : 2 * r' * d < d' * d := Nat.mul_lt_mul_of_pos_right c hd
        rw [c2] at h2
        rw [Nat.mul_comm d' d] at h3
        omega
      rw [if_neg this]; split <;> omega
    · rw [if_neg c2]
      have h3 : d * d' < 2 * r * d' := Nat.mul_lt_mul_of_pos_right (by omega) hd'
      have h4 : d' * d < 2 * r' * d := by rw [Nat.mul_comm d' d]; omega
      have h5 := Nat.lt_of_mul_lt_mul_right h4
      rw [if_neg (by omega), if_neg (by omega)]
      omega
theorem rN_mono {n d n' d' : Nat} (m : Int) (hd : 0 < d) (hd' : 0 < d') (h : n * d' <= n' * d) : rN n d m <= rN n' d' m := by
  have e1 := Nat.div_add_mod n d; have e2 := Nat.div_add_mod n' d'
  have l1 := Nat.mod_lt n hd; have l2 := Nat.mod_lt n' hd'
  have hq : n / d <= n' / d' := by
    rw [Nat.le_div_iff_mul_le hd']
    have h1 : n / d * d <= n := Nat.div_mul_le_self n d
    have h2 : n / d * d' * d <= n' * d := by
      calc n / d * d' * d = n / d * d * d' := by rw [Nat.mul_right_comm]
        _ <= n * d' := Nat.mul_le_mul_right d' h1
        _ <= n' * d := h
    exact Nat.le_of_mul_le_mul_right h2 hd
  by_cases hlt : n / d < n' / d'
  · exact Nat.le_trans (rN_hi n d m) (Nat.le_trans hlt (rN_lo n' d' m))
  · have he : n / d = n' / d' := by omega
    have hr : n % d * d' <= n' % d' * d := by
      have a1 : n * d' = n / d * d * d' + n % d * d' := by
        rw [<- Nat.add_mul]; congr 1
        rw [Nat.mul_comm (n / d) d]; omega
      have a2 : n' * d = n / d * d * d' + n' % d' * d := by
        rw [Nat.mul_right_comm, <- Nat.add_mul]; congr 1
        rw [he, Nat.mul_comm (n' / d') d']; omega
      omega
    unfold rN
    by_cases c : n % d ≠ 0 /\ modeAway m false (halfC (n % d) d) (decide (n / d % 2 = 1)) = true
    · rw [if_pos c]
      have r0 : n' % d' ≠ 0 := fun h0 => by
        rw [h0, Nat.zero_mul] at hr
        have : 0 < n % d * d' := Nat.mul_pos (by omega) hd'
        omega
      have hm := halfC_mono hd hd' hr
      have : modeAway m false (halfC (n' % d') d') (decide (n' / d' % 2 = 1)) = true := by
        rw [<- he]
        exact away_mono hm (fun h => by omega) c.2
      rw [if_pos ⟨r0, this⟩]; omega
    · rw [if_neg c]; split <;> omega
theorem rN_eq {n d n' d' : Nat} (m : Int) (hd : 0 < d) (hd' : 0 < d') (h : n * d' = n' * d) : rN n d m = rN n' d' m :=
  Nat.le_antisymm (rN_mono m hd hd' (Nat.le_of_eq h)) (rN_mono m hd' hd (Nat.le_of_eq h.symm))
theorem rN_one (n : Nat) (m : Int) : rN n 1 m = n := by
  unfold rN; rw [if_neg (by simp [Nat.mod_one]), Nat.div_one]
theorem rN_zero (d : Nat) (m : Int) : rN 0 d m = 0 := by
  unfold rN; rw [if_neg (by simp), Nat.zero_div]
section
variable (tx : Nat -> Nat)
def nx (p L : Nat) : Nat := L + tx L - p
def it : Nat -> Nat -> Nat -> Nat
  | 0, _, L => L
  | n + 1, p, L => it n p (nx tx p L)
variable {tx}
theorem nx_mono (ht : ∀ a b, a <= b -> tx a <= tx b) {p q L M : Nat} (hp : q <= p) (hL : L <= M) : nx tx p L <= nx tx q M := by
  unfold nx; have := ht L M hL; omega
theorem it_mono (ht : ∀ a b, a <= b -> tx a <= tx b) : ∀ (n : Nat) {p q L M : Nat}, q <= p -> L <= M -> it tx n p L <= it tx n q M
  | 0, _, _, _, _, _, hL => hL
  | n + 1, _, _, _, _, hp, hL => it_mono ht n hp (nx_mono ht hp hL)
theorem it_zero (h0 : tx 0 = 0) : ∀ (n p : Nat), it tx n p 0 = 0
  | 0, _ => rfl
  | n + 1, p => by
    show it tx n p (nx tx p 0) = 0
    rw [show nx tx p 0 = 0 by unfold nx; rw [h0]; omega]
    exact it_zero h0 n p
theorem it_top (h0 : tx 0 = 0) {n p L : Nat} (hn : 0 < n) (hp : L + tx L <= p) : it tx n p L = 0 := by
  cases n with
  | zero => omega
  | succ n =>
    show it tx n p (nx tx p L) = 0
    rw [show nx tx p L = 0 by unfold nx; omega]
    exact it_zero h0 n p
theorem it_nopay : ∀ (n L : Nat), L <= it tx n 0 L
  | 0, L => Nat.le_refl _
  | n + 1, L => Nat.le_trans (by unfold nx; omega) (it_nopay n (nx tx 0 L))
def IsLeast (tx : Nat -> Nat) (n L p : Nat) : Prop := it tx n p L = 0 /\ ∀ q, q < p -> it tx n q L ≠ 0
theorem IsLeast.uniq {n L p q : Nat} (h : IsLeast tx n L p) (k : IsLeast tx n L q) : p = q := by
  rcases Nat.lt_trichotomy p q with c | c | c
  · exact absurd h.1 (k.2 p c)
  · exact c
  · exact absurd k.1 (h.2 q c)
theorem IsLeast.of_search (ht : ∀ a b, a <= b -> tx a <= tx b) {n L p : Nat} (h : it tx n p L = 0) (hl : p = 0 ∨ 0 < p /\ it tx n (p - 1) L ≠ 0) : IsLeast tx n L p := by
  refine ⟨h, fun q hq e => ?_⟩
  rcases hl with hl | ⟨_, hl⟩
  · omega
  · have := it_mono ht n (p := p - 1) (q := q) (L := L) (M := L) (by omega) (Nat.le_refl _)
    omega
end
end Go.Proofs.YtbgokfhcgcoipaaDoor
namespace Go.Proofs.YtbgokfhcgcoipaaDoor
open Go Go.Conc Go.Proofs.YtbgokfhcgcoipaaDoor.Sx
theorem cmpL_half (r d : Nat) : cmpL (digs (r + r)) (digs d) = halfC r d := by
  have h := cmpL_val (digs_canon (r + r)) (digs_canon d)
  rw [val_digs, val_digs] at h
  unfold halfC
  rcases h with ⟨h1, h2⟩ | ⟨h1, h2⟩ | ⟨h1, h2⟩
  · rw [h1, if_pos (by omega)]
  · rw [h1, if_neg (by omega), if_pos (by omega)]
  · rw [h1, if_neg (by omega), if_neg (by omega)]
theorem roundM_rN (n d : Nat) (m : Int) : roundM (n : Int) d m = rN n d m := by
  unfold roundM rN
  rw [cmpL_half, Int.natAbs_natCast, decide_eq_false (show ¬ ((n : Int) < 0) by omega)]
theorem rround_rN (n d : Nat) (m : Int) : rround (n : Int) d m = (rN n d m : Nat) := by
  unfold rround
  rw [if_neg (by omega), roundM_rN]
theorem redN_nat (n d : Nat) : redN (n : Int) d = ((n / Nat.gcd n d : Nat) : Int) := by
  unfold redN
  rw [if_neg (by omega), Int.natAbs_natCast]
theorem red_mul {n d : Nat} : n / Nat.gcd n d * d = n * (d / Nat.gcd n d) := by
  rw [<- Nat.mul_div_assoc _ (Nat.gcd_dvd_right n d), Nat.div_mul_right_comm (Nat.gcd_dvd_left n d)]
theorem redD_nat (n d : Nat) : redD (n : Int) d = d / Nat.gcd n d := by
  unfold redD; rw [Int.natAbs_natCast]
theorem ex_mul (u m t : Nat) : ∃ N : Nat, exN (u : Int) m t = (N : Int) /\ 0 < exD (u : Int) m t /\ N * 10 ^ t = u * m * exD (u : Int) m t := by
  have h10 : 0 < 10 ^ t := Nat.pos_of_ne_zero (by simp)
  have e1 := red_mul (n := m) (d := 10 ^ t)
  have e2 := redN_nat m (10 ^ t)
  have e3 := redD_nat m (10 ^ t)
  have p3 : 0 < redD (m : Int) (10 ^ t) := redD_pos h10
  unfold exN exD
  rw [e2]
  rw [e3] at p3 ⊢
  generalize m / Nat.gcd m (10 ^ t) = a at *
  generalize 10 ^ t / Nat.gcd m (10 ^ t) = b at *
  rw [show (u : Int) * (a : Int) = ((u * a : Nat) : Int) from by rw [Int.natCast_mul], redN_nat, redD_nat, Nat.one_mul]
  have e4 := red_mul (n := u * a) (d := b)
  have p4 : 0 < b / Nat.gcd (u * a) b := Nat.div_pos (Nat.le_of_dvd p3 (Nat.gcd_dvd_right _ _)) (gcd_pos_right p3)
  refine ⟨_, rfl, p4, ?_⟩
  generalize u * a / Nat.gcd (u * a) b = A at *
  generalize b / Nat.gcd (u * a) b = B at *
  refine Nat.eq_of_mul_eq_mul_left p3 ?_
  calc b * (A * 10 ^ t) = A * b * 10 ^ t := by rw [<- Nat.mul_assoc, Nat.mul_comm b A]
    _ = u * a * B * 10 ^ t := by rw [e4]
    _ = u * (a * 10 ^ t) * B := by simp only [Nat.mul_assoc, Nat.mul_comm, Nat.mul_left_comm]
    _ = u * (m * b) * B := by rw [e1]
    _ = b * (u * m * B) := by simp only [Nat.mul_assoc, Nat.mul_comm, Nat.mul_left_comm]
def txF (m t : Nat) (mode : Int) (L : Nat) : Nat := rN (L * m) (10 ^ t) mode
theorem txF_mono {m t : Nat} {mode : Int} (a b : Nat) (h : a <= b) : txF m t mode a <= txF m t mode b := by
  have h10 : 0 < 10 ^ t := Nat.pos_of_ne_zero (by simp)
  exact rN_mono mode h10 h10 (Nat.mul_le_mul_right _ (Nat.mul_le_mul_right _ h))
theorem txF_zero {m t : Nat} {mode : Int} : txF m t mode 0 = 0 := by
  unfold txF; rw [Nat.zero_mul]; exact rN_zero _ _
theorem txF_le {m t : Nat} {mode : Int} (hm : m <= 10 ^ t) (L : Nat) : txF m t mode L <= L := by
  have h10 : 0 < 10 ^ t := Nat.pos_of_ne_zero (by simp)
  have := rN_mono (n := L * m) (d := 10 ^ t) (n' := L) (d' := 1) mode h10 Nat.one_pos (by rw [Nat.mul_one]; exact Nat.mul_le_mul_left _ hm)
  rwa [rN_one] at this
theorem sgn_le0 {z : Int} : sgn z <= 0 ↔ z <= 0 := by unfold sgn; split <;> (try split) <;> omega
theorem taxOk_le {m t : Nat} (h : taxOk [.bool false, .ints (digs m), .int (t : Int)] = true) : m <= 10 ^ t := by
  simp only [taxOk, Bool.and_eq_true, decide_eq_true_eq] at h
  obtain ⟨⟨⟨h1, h2⟩, _⟩, h4⟩ := h
  have h5 : decOk (enc 1 ++ [.int 0]) = true := by decide +kernel
  have e : dcmp [.bool false, .ints (digs m), .int (t : Int)] (enc 1 ++ [.int 0]) = sgn ((m : Int) * 10 ^ (max (t : Int) 0 - t).toNat - 1 * 10 ^ (max (t : Int) 0 - 0).toNat) := by
    show (if decOk [.bool false, .ints (digs m), .int (t : Int)] && decOk (enc 1 ++ [.int 0]) then sgn (ival [.bool false, .ints (digs m)] * 10 ^ (max (t : Int) 0 - t).toNat - ival (enc 1) * 10 ^ (max (t : Int) 0 - 0).toNat) else 0) = _
    rw [h1, h5, show ival (enc 1) = 1 from ival_enc 1, show ival [.bool false, .ints (digs m)] = (m : Int) from val_digs m]
    rfl
  rw [e, sgn_le0] at h4
  rw [show (max (t : Int) 0 - t).toNat = 0 by omega, show (max (t : Int) 0 - 0).toNat = t by omega] at h4
  have h6 : (m : Int) <= ((10 ^ t : Nat) : Int) := by
    rw [Int.natCast_pow]
    have : ((10 : Nat) : Int) = 10 := rfl
    rw [this]
    omega
  exact Int.ofNat_le.1 h6
theorem money_nat {c : ByteArray} (hc : curKnown c = true) {L : Nat} (h : L < 1000000000000000000000000000000000000) : moneyOk (.str c :: enc (L : Int)) = true := by
  have h4 : (digs (L : Int).natAbs).length <= 4 := by rw [Int.natAbs_natCast]; exact digs_len 4 (by omega)
  have h5 : intOk (enc (L : Int)) = true := enc_ok (by omega)
  show (curKnown c && intOk (enc (L : Int)) && decide ((digs (L : Int).natAbs).length <= 4)) = true
  rw [hc, h5, decide_eq_true h4]; rfl
theorem taxOn_tx {c : ByteArray} {L m t : Nat} {mode : Int} (hc : curKnown c = true) (hL : L < 1000000000000000000000000000000000000) (ht : taxOk [.bool false, .ints (digs m), .int (t : Int)] = true) (hmo : modeOk mode = true) :
    (taxOnT (.str c :: enc (L : Int)) [.bool false, .ints (digs m), .int (t : Int)] mode).1 = true /\ (taxOnT (.str c :: enc (L : Int)) [.bool false, .ints (digs m), .int (t : Int)] mode).2.1 = .str c :: enc ((txF m t mode L : Nat) : Int) := by
  have hle := txF_le (mode := mode) (taxOk_le ht) L
  have hmk := money_nat hc hL
  obtain ⟨N, e1, p, e2⟩ := ex_mul L m t
  have h10 : 0 < 10 ^ t := Nat.pos_of_ne_zero (by simp)
  have er : rround (exN (L : Int) m t) (exD (L : Int) m t) mode = ((txF m t mode L : Nat) : Int) := by
    rw [e1, rround_rN]
    unfold txF
    rw [rN_eq mode p h10 e2]
  rw [enc_nat L] at hmk ⊢
  have hv : ival [.bool false, .ints (digs L)] = (L : Int) := val_digs L
  have hr : rmOk c (exN (L : Int) m t) (exD (L : Int) m t) mode = true := by
    unfold rmOk
    rw [er, hmo, money_nat hc (by omega)]; rfl
  have hcond : (moneyOk [.str c, .bool false, .ints (digs L)] && taxOk [.bool false, .ints (digs m), .int (t : Int)]) = true := by rw [hmk, ht]; rfl
  have hm2 : (val (digs m)).toNat = m := by rw [val_digs]; omega
  constructor
  · show (taxOnT [.str c, .bool false, .ints (digs L)] [.bool false, .ints (digs m), .int (t : Int)] mode).1 = true
    simp only [taxOnT, hcond, if_true, hv, hm2, Int.toNat_natCast]
    exact hr
  · show (taxOnT [.str c, .bool false, .ints (digs L)] [.bool false, .ints (digs m), .int (t : Int)] mode).2.1 = _
    simp only [taxOnT, hcond, if_true, hv, hm2, Int.toNat_natCast]
    show rmMoney _ _ _ _ = _
    unfold rmMoney
    rw [hr, er]; rfl
theorem nextT_nx {c : ByteArray} {L p m t : Nat} {mode : Int} (hc : curKnown c = true) (hL : 2 * L < 1000000000000000000000000000000000000) (hp : p < 1000000000000000000000000000000000000) (ht : taxOk [.bool false, .ints (digs m), .int (t : Int)] = true) (hmo : modeOk mode = true) :
    nextT (.str c :: enc (L : Int)) [.bool false, .ints (digs m), .int (t : Int)] (.str c :: enc (p : Int)) mode = (true, rowOf c (txF m t mode L : Nat) (lesser ((L + txF m t mode L : Nat) : Int) p) (nx (txF m t mode) p L : Nat)) := by
  have hle := txF_le (mode := mode) (taxOk_le ht) L
  obtain ⟨t1, t2⟩ := taxOn_tx hc (show L < 1000000000000000000000000000000000000 by omega) ht hmo
  have hal := alk_enc (money_nat hc (show L < 1000000000000000000000000000000000000 by omega)) (money_nat hc hp)
  have hsum := money_nat hc (show L + txF m t mode L < 1000000000000000000000000000000000000 by omega)
  rw [enc_nat L] at t1 t2 hal ⊢
  rw [enc_nat p] at hal ⊢
  have hv : ival [.bool false, .ints (digs L)] = (L : Int) := val_digs L
  have hvp : ival [.bool false, .ints (digs p)] = (p : Int) := val_digs p
  have hmv : moneyVal (taxOnT [.str c, .bool false, .ints (digs L)] [.bool false, .ints (digs m), .int (t : Int)] mode).2.1 = ((txF m t mode L : Nat) : Int) := by
    have hme : moneyVal (.str c :: enc ((txF m t mode L : Nat) : Int)) = ((txF m t mode L : Nat) : Int) := ival_enc ((txF m t mode L : Nat) : Int)
    rw [show taxOnT [.str c, .bool false, .ints (digs L)] [.bool false, .ints (digs m), .int (t : Int)] mode = taxOnT (.str c :: [.bool false, .ints (digs L)]) [.bool false, .ints (digs m), .int (t : Int)] mode from rfl, t2]
    exact hme
  show nextT [.str c, .bool false, .ints (digs L)] [.bool false, .ints (digs m), .int (t : Int)] [.str c, .bool false, .ints (digs p)] mode = _
  simp only [nextT]
  have hs : ((L : Int) + ((txF m t mode L : Nat) : Int)) = ((L + txF m t mode L : Nat) : Int) := by omega
  rw [hmv, hv, hvp, hs]
  rw [if_pos]
  · refine Prod.ext rfl ?_
    show rowOf _ _ _ _ = rowOf _ _ _ _
    congr 1
    unfold lesser nx
    split <;> omega
  · rw [show alk [.str c, .bool false, .ints (digs L)] [.str c, .bool false, .ints (digs p)] = true from hal, show (taxOnT [.str c, .bool false, .ints (digs L)] [.bool false, .ints (digs m), .int (t : Int)] mode).1 = true from t1, hsum]
    rfl
theorem zeroM_nat {c : ByteArray} {L : Nat} (hL : L < 1000000000000000000000000000000000000) : zeroM (.str c :: enc (L : Int)) = decide (L = 0) := by
  have h5 : intOk (enc (L : Int)) = true := enc_ok (by
    have : (digs (L : Int).natAbs).length <= 4 := by rw [Int.natAbs_natCast]; exact digs_len 4 (by omega)
    omega)
  rw [zeroM_eq (cur := .str c :: enc (L : Int)) rfl h5]
  show decide (isign (enc (L : Int)) = 0) = _
  rw [isign_enc h5]
  by_cases h : L = 0
  · subst h; rfl
  · rw [if_neg (by omega), if_neg (by omega), decide_eq_false h]; rfl
theorem planDone_last {c : ByteArray} {i p : Int} {L : Nat} {l : List (List D0)} (hL : L < 1000000000000000000000000000000000000) (h : l.getLast? = some (rowOf c i p (L : Int))) : planDone l = decide (L = 0) := by
  have h5 : intOk (enc (L : Int)) = true := enc_ok (by
    have : (digs (L : Int).natAbs).length <= 4 := by rw [Int.natAbs_natCast]; exact digs_len 4 (by omega)
    omega)
  have h6 := zeroM_nat (c := c) hL
  rw [planDone_eq (s := c) (b := decide ((L : Int) < 0)) (z := digs (L : Int).natAbs) (by rw [h]; rfl)]
  exact h6
theorem perL_it {c : ByteArray} {p m t : Nat} {mode : Int} (hc : curKnown c = true) (hp : p < 1000000000000000000000000000000000000) (ht : taxOk [.bool false, .ints (digs m), .int (t : Int)] = true) (hmo : modeOk mode = true) :
    ∀ (k L : Nat), L * 2 ^ k < 1000000000000000000000000000000000000 -> (perL k (.str c :: enc (L : Int)) [.bool false, .ints (digs m), .int (t : Int)] (.str c :: enc (p : Int)) mode).all (fun x => x.1) = true /\
      ((perL k (.str c :: enc (L : Int)) [.bool false, .ints (digs m), .int (t : Int)] (.str c :: enc (p : Int)) mode = [] /\ (L = 0 ∨ k = 0)) ∨
       (L ≠ 0 /\ k ≠ 0 /\ ∃ x i q z, (perL k (.str c :: enc (L : Int)) [.bool false, .ints (digs m), .int (t : Int)] (.str c :: enc (p : Int)) mode).getLast? = some x /\ x.2 = rowOf c i q ((z : Nat) : Int) /\ z = it (txF m t mode) k p L /\ z < 1000000000000000000000000000000000000))
  | 0, L, _ => ⟨rfl, .inl ⟨rfl, .inr rfl⟩⟩
  | k + 1, L, hL => by
    have hk1 : 1 <= 2 ^ k := Nat.one_le_two_pow
    have h2 : 2 * L <= L * 2 ^ (k + 1) := by
      rw [Nat.pow_succ, Nat.mul_comm (2 ^ k) 2, <- Nat.mul_assoc, Nat.mul_comm L 2]
      exact Nat.le_mul_of_pos_right _ hk1
    rw [perL_succ, zeroM_nat (by omega)]
    by_cases h0 : L = 0
    · rw [decide_eq_true h0, if_pos rfl]
      exact ⟨rfl, .inl ⟨rfl, .inl h0⟩⟩
    · rw [decide_eq_false h0, if_neg (by decide), nextT_nx hc (by omega) hp ht hmo]
      have hle := txF_le (mode := mode) (taxOk_le ht) L
      have hnx : nx (txF m t mode) p L <= 2 * L := by unfold nx; omega
      have hnk : nx (txF m t mode) p L * 2 ^ k < 1000000000000000000000000000000000000 := by
        refine Nat.lt_of_le_of_lt (Nat.mul_le_mul_right _ hnx) ?_
        have e : 2 * L * 2 ^ k = L * 2 ^ (k + 1) := by rw [Nat.pow_succ, Nat.mul_comm 2 L, Nat.mul_assoc, Nat.mul_comm 2 (2 ^ k)]
        rw [e]; exact hL
      obtain ⟨h1, h3⟩ := perL_it hc hp ht hmo k (nx (txF m t mode) p L) hnk
      simp only [if_true]
      have hd : (rowOf c ((txF m t mode L : Nat) : Int) (lesser ((L + txF m t mode L : Nat) : Int) p) ((nx (txF m t mode) p L : Nat) : Int)).drop 6 = .str c :: enc ((nx (txF m t mode) p L : Nat) : Int) := rfl
      rw [hd]
      refine ⟨by rw [List.all_cons, h1]; rfl, .inr ⟨h0, by omega, ?_⟩⟩
      rcases h3 with ⟨h4, h5⟩ | ⟨h4, h5, x, i, q, z, h6, h7, h8, h9⟩
      · rw [h4]
        refine ⟨_, _, _, nx (txF m t mode) p L, rfl, rfl, ?_, by omega⟩
        rcases h5 with h5 | h5
        · show _ = it (txF m t mode) k p (nx (txF m t mode) p L)
          rw [h5, it_zero txF_zero]
        · subst h5; rfl
      · refine ⟨x, i, q, z, ?_, h7, h8, h9⟩
        rw [List.getLast?_cons, h6]; rfl
theorem planT_it {c : ByteArray} {n p L m t : Nat} {mode : Int} (hc : curKnown c = true) (hn : 1 <= n) (hn2 : n <= 24) (hp : p < 1000000000000000000000000000000000000) (hL : L < 1000000000000000000000000000) (ht : taxOk [.bool false, .ints (digs m), .int (t : Int)] = true) (hmo : modeOk mode = true) :
    (planT n (.str c :: enc (L : Int)) [.bool false, .ints (digs m), .int (t : Int)] (.str c :: enc (p : Int)) mode).1 = true /\
    (L ≠ 0 -> planDone (planT n (.str c :: enc (L : Int)) [.bool false, .ints (digs m), .int (t : Int)] (.str c :: enc (p : Int)) mode).2 = decide (it (txF m t mode) n p L = 0)) := by
  have hk : L * 2 ^ n < 1000000000000000000000000000000000000 := by
    have : 2 ^ n <= 2 ^ 24 := Nat.pow_le_pow_right (by decide) hn2
    have h3 : L * 2 ^ n <= L * 2 ^ 24 := Nat.mul_le_mul_left _ this
    have : (2 : Nat) ^ 24 = 16777216 := rfl
    omega
  obtain ⟨h1, h3⟩ := perL_it hc hp ht hmo n L hk
  have hal := alk_enc (money_nat hc (show L < 1000000000000000000000000000000000000 by omega)) (money_nat hc hp)
  unfold planT
  rw [decide_eq_true (show (1 : Int) <= (n : Int) by omega), decide_eq_true (show (n : Int) <= 24 by omega), hal, Int.toNat_natCast, h1]
  simp only [Bool.and_self, if_true]
  refine ⟨trivial, fun h0 => ?_⟩
  rcases h3 with ⟨_, h5⟩ | ⟨_, _, x, i, q, z, h6, h7, h8, h9⟩
  · omega
  · rw [planDone_last (c := c) (i := i) (p := q) (L := z) h9 (by rw [List.getLast?_map, h6, <- h7]; rfl), h8]
def leastP (tx : Nat -> Nat) (n L : Nat) : Nat := ((List.range (L + tx L + 1)).find? (fun p => decide (it tx n p L = 0))).getD 0
theorem leastP_eq {tx : Nat -> Nat} {n L p : Nat} (h : IsLeast tx n L p) (hle : p <= L + tx L) : leastP tx n L = p := by
  have : (List.range (L + tx L + 1)).find? (fun p => decide (it tx n p L = 0)) = some p := by
    rw [List.find?_range_eq_some]
    refine ⟨decide_eq_true h.1, List.mem_range.2 (by omega), fun j hj => ?_⟩
    rw [Bool.not_eq_true', decide_eq_false_iff_not]
    exact h.2 j hj
  unfold leastP
  rw [this]; rfl
def leastOk : List D0 -> List D0 -> Int -> Int -> Bool
  | [.str c, .bool b, .ints z], dr, n, m => (moneyOk [.str c, .bool b, .ints z] && (!b && decide (z.length <= 2))) && (taxOk dr && (decide (1 <= n /\ n <= 24) && modeOk m))
  | _, _, _, _ => false
def leastT : List D0 -> List D0 -> Int -> Int -> Bool × List D0
  | [.str c, .bool b, .ints z], [.bool b2, .ints z2, .int s], n, m => if leastOk [.str c, .bool b, .ints z] [.bool b2, .ints z2, .int s] n m then
      (true, .str c :: enc ((leastP (txF (val z2).toNat s.toNat m) n.toNat (val z).toNat : Nat) : Int)) else (false, zeroMoney)
  | _, _, _, _ => (false, zeroMoney)
theorem leastOk_eq (c : ByteArray) (b : Bool) (z : List Int) (dr : List D0) (n m : Int) : leastOk [.str c, .bool b, .ints z] dr n m = ((moneyOk [.str c, .bool b, .ints z] && (!b && decide (z.length <= 2))) && (taxOk dr && (decide (1 <= n /\ n <= 24) && modeOk m))) := rfl
theorem leastT_eq (c : ByteArray) (b : Bool) (z : List Int) (b2 : Bool) (z2 : List Int) (s n m : Int) : leastT [.str c, .bool b, .ints z] [.bool b2, .ints z2, .int s] n m = if leastOk [.str c, .bool b, .ints z] [.bool b2, .ints z2, .int s] n m then
      (true, .str c :: enc ((leastP (txF (val z2).toNat s.toNat m) n.toNat (val z).toNat : Nat) : Int)) else (false, zeroMoney) := rfl
end Go.Proofs.YtbgokfhcgcoipaaDoor
