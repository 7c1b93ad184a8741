/-
  Contracts: decimal numbers compared, in the program.
-/
import Derived.Test.YtfbmjimhjlmhkaaCScaled
namespace Go.Proofs.Ytfbmjimhjlmhkaa
open Go Go.Proofs.Ytfbmjimhjlmhkaa.Sx
set_option linter.unusedVariables false
set_option linter.unusedSimpArgs false

/-- the sign of the difference of two valid decimal numbers, else 0 -/
def dcmp : List D0 → List D0 → Int
  | [.bool a, .ints x, .int s], [.bool b, .ints y, .int t] => if decOk [.bool a, .ints x, .int s] && decOk [.bool b, .ints y, .int t] then
      sgn (ival [.bool a, .ints x] * 10 ^ (max s t - s).toNat - ival [.bool b, .ints y] * 10 ^ (max s t - t).toNat) else 0
  | _, _ => 0

/-- a valid sign and limbs, times a power of ten -/
theorem mkS_mul {b : Bool} {z : List Int} {m : Int} (hok : intOk [.bool b, .ints z] = true) (hm : 0 < m) : mkS b (digs (val z * m).toNat) = enc (ival [.bool b, .ints z] * m) := by
  obtain ⟨_, _, _, he, hc, _⟩ := intOk_enc hok
  simp only [List.cons.injEq, D0.bool.injEq, D0.ints.injEq, and_true] at he
  obtain ⟨rfl, rfl⟩ := he
  have hv := val_nonneg hc.1
  have hp : 0 ≤ val z * m := Int.mul_nonneg hv (Int.le_of_lt hm)
  obtain ⟨N, hN⟩ : ∃ N : Nat, val z * m = N := ⟨(val z * m).toNat, by omega⟩
  cases b with
  | false => simp only [ival, Bool.false_eq_true, if_false, hN, Int.toNat_natCast]; exact mkS_pos N
  | true => simp only [ival, if_true, Int.neg_mul, hN, Int.toNat_natCast]; exact mkS_neg N

theorem digs_len : ∀ (k : Nat) {n : Nat}, n < 1000000000 ^ k → (digs n).length ≤ k
  | 0, n, h => by
    have : n = 0 := by simpa using h
    subst this; simp [digs_zero]
  | k + 1, n, h => by
    by_cases h0 : n = 0
    · subst h0; simp [digs_zero]
    · rw [digs_pos h0, List.length_cons]
      have := digs_len k (n := n / 1000000000) (Nat.div_lt_of_lt_mul (by rw [Nat.mul_comm, ← Nat.pow_succ]; exact h))
      omega
theorem icap_fit {z : Int} (h : (digs z.natAbs).length ≤ 50) : icap z = enc z := by
  unfold icap capL
  rw [if_pos h]
  simp only [mkS, enc, isEmpty_digs]
  by_cases h0 : z < 0
  · have : z.natAbs ≠ 0 := by omega
    simp [h0]; omega
  · simp [h0]
/-- few limbs, times a power of ten: few limbs -/
theorem scaled_len {b : Bool} {z : List Int} {e : Nat} (hok : intOk [.bool b, .ints z] = true) (hl : z.length ≤ 6) (he : e ≤ 30) : (digs (ival [.bool b, .ints z] * 10 ^ e).natAbs).length ≤ 10 := by
  obtain ⟨_, _, _, h1, hc, _⟩ := intOk_enc hok
  simp only [List.cons.injEq, D0.bool.injEq, D0.ints.injEq, and_true] at h1
  obtain ⟨rfl, rfl⟩ := h1
  have hv := val_nonneg hc.1
  have hlt := val_lt hc.1
  have h6 : (1000000000 : Nat) ^ z.length ≤ 1000000000 ^ 6 := Nat.pow_le_pow_right (by decide) hl
  have h6' := Int.ofNat_le.2 h6
  rw [Int.natCast_pow, Int.natCast_pow] at h6'
  have hn : (val z).toNat < 1000000000 ^ 6 := by
    have : val z < (1000000000 : Int) ^ 6 := Int.lt_of_lt_of_le hlt h6'
    omega
  have ha : (ival [.bool b, .ints z]).natAbs = (val z).toNat := by cases b <;> simp only [ival, if_true, Bool.false_eq_true, if_false] <;> omega
  have h10 : ((10 : Int) ^ e).natAbs = 10 ^ e := by simp [Int.natAbs_pow]
  have h30 : (10 : Nat) ^ e ≤ 10 ^ 30 := Nat.pow_le_pow_right (by decide) he
  apply digs_len
  rw [Int.natAbs_mul, ha, h10]
  exact Nat.lt_of_lt_of_le (Nat.mul_lt_mul_of_lt_of_le hn h30 (by decide)) (by decide)
/-- the comparison of valid integers is the sign of the difference -/
theorem icmp_enc {x y : Int} (hx : intOk (enc x) = true) (hy : intOk (enc y) = true) : icmp (enc x) (enc y) = sgn (x - y) := by
  have cv := cmpL_val (digs_canon x.natAbs) (digs_canon y.natAbs)
  have cv2 := cmpL_val (digs_canon y.natAbs) (digs_canon x.natAbs)
  rw [val_digs, val_digs] at cv cv2
  unfold enc at hx hy
  unfold enc
  simp only [icmp, hx, hy, Bool.not_true, Bool.or_self, Bool.false_eq_true, if_false, sgn]
  by_cases h1 : x < 0 <;> by_cases h2 : y < 0 <;> simp only [h1, h2, decide_true, decide_false, Bool.not_true, Bool.not_false, Bool.and_true, Bool.true_and, Bool.and_false, Bool.false_and, Bool.false_eq_true, if_true, if_false]
  · rcases cv2 with ⟨h, h'⟩ | ⟨h, h'⟩ | ⟨h, h'⟩ <;> rw [h] <;> (repeat' split) <;> omega
  · (repeat' split) <;> omega
  · (repeat' split) <;> omega
  · rcases cv with ⟨h, h'⟩ | ⟨h, h'⟩ | ⟨h, h'⟩ <;> rw [h] <;> (repeat' split) <;> omega

theorem decOk_spec {b : Bool} {z : List Int} {s : Int} (h : decOk [.bool b, .ints z, .int s] = true) : intOk [.bool b, .ints z] = true ∧ z.length ≤ 6 ∧ 0 ≤ s ∧ s ≤ 30 := by
  simp only [decOk, Bool.and_eq_true, decide_eq_true_eq] at h
  exact ⟨h.1.1, h.1.2, h.2.1, h.2.2⟩

theorem impl_DecCmp_c {w : World} {xs ys : List Value} {dx dy : List D0} (h : Reps w xs dx) (k : Reps w ys dy) (hc : dx.map D0.code = [.bool, .ints, .int]) (kc : dy.map D0.code = [.bool, .ints, .int]) :
    Ret P n_impl_DecCmp [.agg ⟨xs⟩, .agg ⟨ys⟩] w fun v w' => v = .int .i64 (dcmp dx dy) ∧ Ext w w' := by
  have hr := h; have kr := k
  obtain ⟨a0, a1p, a1n, a1c, a1z, a2, rfl, rfl, ha⟩ := open_Dec h hc
  obtain ⟨b0, b1p, b1n, b1c, b1z, b2, rfl, rfl, hb⟩ := open_Dec k kc
  refine impl_DecCmp_ret ?_
  unfold impl_DecCmp
  intro r w1 hn1 r1 w2 hn2
  have X := hn1.ext.trans hn2.ext
  have k0 := hn1.blk.ext hn2.ext; have k1 := hn2.blk
  have bad : ∀ W, Ext w2 W → (decOk [.bool a0, .ints a1z, .int a2] && decOk [.bool b0, .ints b1z, .int b2]) = false → Value.int .i64 0 = .int .i64 (dcmp [.bool a0, .ints a1z, .int a2] [.bool b0, .ints b1z, .int b2]) ∧ Ext w W := fun W hW hno => ⟨by simp only [dcmp, hno]; rfl, X.trans hW⟩
  refine ⟨_, _, _, _, _, k0.loadA0 (by kernel_rfl), ?_⟩
  refine Ret.at (impl_DecOk_c (hr.ext X) rfl) ?_
  rintro v w3 ⟨hv, y3⟩
  subst hv
  refine ⟨_, rfl, ifN (fun hno => ifT (bad w3 y3 (by simp [hno]))) (fun hok1 => ?_)⟩
  refine ⟨_, _, _, _, _, (k1.ext y3).loadA0 (by kernel_rfl), ?_⟩
  refine Ret.at (impl_DecOk_c (kr.ext (X.trans y3)) rfl) ?_
  rintro v w4 ⟨hv, y4⟩
  subst hv
  refine ⟨_, rfl, ifN (fun hno => bad w4 (y3.trans y4) (by simp [hno])) (fun hok2 => ?_)⟩
  obtain ⟨o1, l1, s1, t1⟩ := decOk_spec hok1
  obtain ⟨o2, l2, s2, t2⟩ := decOk_spec hok2
  have X4 := (X.trans y3).trans y4
  have k0 := (k0.ext y3).ext y4; have k1 := (k1.ext y3).ext y4
  unfold impl_DecCmp_j0
  have emax : (if b2 > a2 then b2 else a2) = max a2 b2 := by split <;> omega
  refine ⟨_, k0.loadAt 2 rfl (by kernel_rfl) rfl, _, k1.loadAt 2 rfl (by kernel_rfl) rfl, _, rfl, ?_⟩
  rw [emax]
  refine Ret.at (R := fun v w' => ∃ r, v = .func (.func n_impl_scaled_1) ⟨[]⟩ ⟨[.pointer (some ⟨r, 0, none⟩)]⟩ ∧ Blk w' r T_int [.int .i64 (max a2 b2)] ∧ Ext w4 w') ?_ ?_
  · refine impl_scaled_ret ?_
    unfold impl_scaled
    intro r5 w5 hn5
    exact ⟨r5, rfl, hn5.blk, hn5.ext⟩
  rintro v w5 ⟨r5, hv, hb5, y5⟩
  subst hv
  have D := Ext.drew w5
  have X5 := (X4.trans y5).trans D
  have q0 := (k0.ext y5).ext D; have q1 := (k1.ext y5).ext D
  have la := (intOk_enc o1).2
  obtain ⟨_, _, h1, c1, _⟩ := la
  simp only [List.cons.injEq, D0.bool.injEq, D0.ints.injEq, and_true] at h1
  obtain ⟨rfl, rfl⟩ := h1
  obtain ⟨_, _, h2, c2, _⟩ := (intOk_enc o2).2
  simp only [List.cons.injEq, D0.bool.injEq, D0.ints.injEq, and_true] at h2
  obtain ⟨rfl, rfl⟩ := h2
  have p1 : (0 : Int) < 10 ^ (max a2 b2 - a2).toNat := Int.pow_pos (by decide)
  have p2 : (0 : Int) < 10 ^ (max a2 b2 - b2).toNat := Int.pow_pos (by decide)
  refine ⟨_, rfl, _, _, _, _, _, fun W hW => (q0.ext hW).loadA0 (by kernel_rfl), _, _, _, rfl, by kernel_rfl, ?_⟩
  refine Calls.mono (impl_scaled_1_c (hr.ext X5) c1.1 (by omega) (by omega) (by omega) (by omega) (hb5.ext D)) ?_
  rintro e w6 ⟨v, he, vs1, f1, hv, ho1, _, y6⟩
  subst hv
  rw [mkS_mul o1 p1] at ho1
  obtain ⟨g0, gp, gn, gc, gz, rfl, hg, hgi⟩ := open_Signed ho1.reps (enc_code _)
  refine ⟨_, _, _, _, he, y6, _, _, _, _, _, fun W hW => (q1.ext hW).loadA0 (by kernel_rfl), _, _, _, rfl, by kernel_rfl, ?_⟩
  refine Calls.mono (impl_scaled_1_c (kr.ext (X5.trans y6)) c2.1 (by omega) (by omega) (by omega) (by omega) ((hb5.ext D).ext y6)) ?_
  rintro e w7 ⟨v, he2, vs2, f2, hv, ho2, _, y7⟩
  subst hv
  rw [mkS_mul o2 p2] at ho2
  obtain ⟨g20, g2p, g2n, g2c, g2z, rfl, hg2, hgi2⟩ := open_Signed ho2.reps (enc_code _)
  refine ⟨_, _, _, _, he2, ?_⟩
  refine Ret.at (impl_intCmp_c (ho1.reps.ext y7) ho2.reps (Nat.le_trans (scaled_len o1 l1 (by omega)) (by decide)) (Nat.le_trans (scaled_len o2 l2 (by omega)) (by decide))) ?_
  rintro v w8 ⟨hv, y8⟩
  subst hv
  refine ⟨_, rfl, ?_, ((X5.trans y6).trans y7).trans y8⟩
  simp only [dcmp, hok1, hok2, Bool.and_self, if_true]

end Go.Proofs.Ytfbmjimhjlmhkaa
