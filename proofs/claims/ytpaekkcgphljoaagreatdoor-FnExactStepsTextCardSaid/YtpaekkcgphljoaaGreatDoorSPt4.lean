/-
  Parts of the proof of stepsText_holds: CCmp, CScaled, CDecCmp, CSpecDec, SxMark, CDivA, SxPush, CDivB, CDivC, CDivS, CGcd, CDecMul, CDecLow, CTaxRateOk, LY, DMark, CTextN, CCopy, CPercent, CStepsOk, CJoin.
  Conditions: none.
-/
import Derived.Laws.BytesArg
import Derived.Shelf.Strconv.Itoa3
import Derived.Shelf.Lays
import Derived.Lib.SmallJoins
import Derived.Lib.AppendIntMem
import Derived.Shelf.Strings.BuilderX
import Derived.Shelf.Strings.Repeat
import Derived.Shelf.Strings.OnBuilder
import Derived.Test.YtpaekkcgphljoaaGreatDoorSPt3

namespace Go.Proofs.YtpaekkcgphljoaaGreatDoor
open Go Go.Proofs.YtpaekkcgphljoaaGreatDoor.Sx
set_option linter.unusedVariables false
set_option linter.unusedSimpArgs false
def sgn (z : Int) : Int := if z < 0 then -1 else if z = 0 then 0 else 1
theorem impl_intSign_c {w : World} {xs : List Value} {z : Int} (h : Reps w xs (enc z)) : Ret P n_impl_intSign [.agg ⟨xs⟩] w fun v w' => v = .int .i64 (sgn z) ∧ Ext w w' := by
  obtain ⟨a0, a1p, a1n, a1c, a1z, rfl, hd, ha⟩ := open_Signed h rfl
  simp only [enc, List.cons.injEq, D0.bool.injEq, D0.ints.injEq, and_true] at hd
  obtain ⟨rfl, rfl⟩ := hd
  have hl := ha.1
  have he := isEmpty_digs (n := z.natAbs)
  refine impl_intSign_ret ?_
  unfold impl_intSign
  intro r w1 hn
  have hzero : (a1n = 0) ↔ z = 0 := by
    rw [← hl, List.length_eq_zero_iff, digs_nil]; omega
  refine ⟨_, _, _, hn.blk.load (by kernel_rfl) rfl, ifD (fun h0 => ⟨?_, hn.ext⟩) (fun h0 => ⟨_, hn.blk.load (by kernel_rfl) rfl, fun e => ⟨?_, hn.ext⟩, fun e => ⟨?_, hn.ext⟩⟩)⟩
  · have : z = 0 := hzero.1 (by omega)
    subst this; rfl
  · have e := of_decide_eq_true e
    simp [sgn, e]
  · have e := of_decide_eq_false e
    have : z ≠ 0 := fun h => h0 (by have := hzero.2 h; omega)
    simp [sgn, e, this]
theorem impl_intNeg_c {w : World} {xs : List Value} {z : Int} (h : Reps w xs (enc z)) (hz : (digs z.natAbs).length ≤ 10000000) : Ret P n_impl_intNeg [.agg ⟨xs⟩] w fun v w' => ∃ vs' f, v = .agg ⟨vs'⟩ ∧ Owns w' w.heap.size vs' (enc (-z)) f ∧ f.Nodup ∧ Ext w w' := by
  obtain ⟨a0, a1p, a1n, a1c, a1z, rfl, hd, ha⟩ := open_Signed h rfl
  simp only [enc, List.cons.injEq, D0.bool.injEq, D0.ints.injEq, and_true] at hd
  obtain ⟨rfl, rfl⟩ := hd
  have hl := ha.1
  refine impl_intNeg_ret ?_
  unfold impl_intNeg
  intro r w1 hn1 r1 w2 hn2
  have x := hn1.ext.trans hn2.ext
  have D := Ext.drew w2
  have XD := x.trans D
  have k0 := hn1.blk.ext hn2.ext
  have e2 := hn2.r_eq; have s1 := hn1.size; have s2 := hn2.size
  refine ⟨_, fun W hW => (k0.ext (D.trans hW)).load (by kernel_rfl) rfl, _, _, _, fun W hW => (k0.ext (D.trans hW)).load (by kernel_rfl) rfl, ?_⟩
  refine Ret.at (impl_natCopy_c (ha.ext XD) (by omega)) ?_
  rintro v w3 ⟨p, c, hv, ho, y3⟩
  subst hv
  refine ⟨_, _, _, rfl, y3, ?_⟩
  refine Ret.at (impl_signed_c ho.ints.1) ?_
  rintro v w4 ⟨hv, y4⟩
  subst hv
  have lD := D.le
  obtain ⟨w5, st, hb5, ch, sz⟩ := (((hn2.blk.ext D).ext y3).ext y4).storeA0 (P := P) (t := T_impl_Signed) (xs := [.bool (!(decide (z < 0)) && !(digs z.natAbs).isEmpty), .slice p a1n c]) (by kernel_rfl) rfl (by simp [Value.oneCell'])
  refine ⟨_, _, _, _, rfl, w5, st, _, _, _, _, hb5.loadA0 (by kernel_rfl), _, _, rfl, ?_, nodup_opt p, ((XD.trans y3).trans y4).chg ch (by simp; omega)⟩
  have eb : (!(decide (z < 0)) && !(digs z.natAbs).isEmpty) = decide (-z < 0) := by
    rw [isEmpty_digs]
    by_cases h0 : z = 0
    · subst h0; rfl
    · by_cases h1 : z < 0
      · have : ¬ (-z < 0) := by omega
        simp [h1]; omega
      · have h2 : z.natAbs ≠ 0 := by omega
        simp [h1, h0]; omega
  rw [eb]
  have := ((Owns.int2 (b := decide (-z < 0)) (ho.ext y4)).chg1 ch (by omega)).mono (B' := w.heap.size) (by omega)
  unfold enc
  rw [Int.natAbs_neg]
  exact this
theorem impl_intCmp_c {w : World} {xs ys : List Value} {x y : Int} (h : Reps w xs (enc x)) (k : Reps w ys (enc y)) (hx : (digs x.natAbs).length ≤ 10000000) (hy : (digs y.natAbs).length ≤ 10000000) :
    Ret P n_impl_intCmp [.agg ⟨xs⟩, .agg ⟨ys⟩] w fun v w' => v = .int .i64 (sgn (x - y)) ∧ Ext w w' := by
  have hr := h; have kr := k
  obtain ⟨a0, a1p, a1n, a1c, a1z, rfl, hd, ha⟩ := open_Signed h rfl
  obtain ⟨b0, b1p, b1n, b1c, b1z, rfl, he, hb⟩ := open_Signed k rfl
  refine impl_intCmp_ret ?_
  unfold impl_intCmp
  intro r w1 hn1 r1 w2 hn2
  have X := hn1.ext.trans hn2.ext
  have D := Ext.drew w2
  have XD := X.trans D
  have k0 := hn1.blk.ext hn2.ext; have k1 := hn2.blk
  refine ⟨_, _, _, _, fun W hW => (k0.ext (D.trans hW)).loadA0 (by kernel_rfl), _, _, _, _, fun W hW => (k1.ext (D.trans hW)).loadA0 (by kernel_rfl), ?_⟩
  refine Ret.at (impl_intNeg_c (kr.ext XD) hy) ?_
  rintro v w3 ⟨vs', f, hv, ho, _, y3⟩
  subst hv
  obtain ⟨q0, q1p, q1n, q1c, q1z, rfl, hq, hqi⟩ := open_Signed ho.reps (enc_code _)
  refine ⟨_, _, _, _, rfl, y3, ?_⟩
  refine Ret.at (impl_intAdd_c (hr.ext (XD.trans y3)) ho.reps hx (by rw [Int.natAbs_neg]; exact hy)) ?_
  rintro v w4 ⟨p, n, c, hv, hown, y4⟩
  subst hv
  refine ⟨_, _, _, _, rfl, ?_⟩
  have hs : Reps w4 [.bool (decide (x + -y < 0)), .slice p n c] (enc (x + -y)) := ⟨rfl, ⟨_, _, _, rfl, hown.ints⟩, trivial⟩
  refine Ret.at (impl_intSign_c hs) ?_
  rintro v w5 ⟨hv, y5⟩
  subst hv
  exact ⟨_, rfl, rfl, ((XD.trans y3).trans y4).trans y5⟩
end Go.Proofs.YtpaekkcgphljoaaGreatDoor

namespace Go.Proofs.YtpaekkcgphljoaaGreatDoor
open Go Go.Proofs.YtpaekkcgphljoaaGreatDoor.Sx
set_option linter.unusedVariables false
set_option linter.unusedSimpArgs false
theorem impl_scaled_1_c {w : World} {xs : List Value} {b : Bool} {z : List Int} {s sc : Int} {cb : Nat} {e : TypeId} (h : Reps w xs [.bool b, .ints z, .int s]) (hz : Limbs z) (hl : z.length ≤ 1000) (hs : 0 ≤ s) (hss : s ≤ sc) (hsc : sc ≤ 30) (hcap : Blk w cb e [.int .i64 sc]) :
    Ret P n_impl_scaled_1 [.agg ⟨xs⟩, .pointer (some ⟨cb, 0, none⟩)] w fun v w' => ∃ vs' f, v = .agg ⟨vs'⟩ ∧ Owns w' w.heap.size vs' (mkS b (digs (val z * 10 ^ (sc - s).toNat).toNat)) f ∧ f.Nodup ∧ Ext w w' := by
  obtain ⟨a0, a1p, a1n, a1c, a1z, a2, rfl, hd, ha⟩ := open_Dec h rfl
  cases hd
  have hlz := ha.1
  refine impl_scaled_1_ret ?_
  unfold impl_scaled_1
  intro r w1 hn1 r1 w2 hn2
  have X := hn1.ext.trans hn2.ext
  have D := Ext.drew w2
  have XD := X.trans D
  have k0 := hn1.blk.ext hn2.ext
  have e2 := hn2.r_eq; have s1 := hn1.size; have s2 := hn2.size
  have lD := D.le
  refine ⟨_, fun W hW => (k0.ext (D.trans hW)).loadAt 0 rfl (by kernel_rfl) rfl, _, _, _, fun W hW => (k0.ext (D.trans hW)).loadAt 1 rfl (by kernel_rfl) rfl, _, fun W hW => (hcap.ext (XD.trans hW)).load0 (by kernel_rfl) rfl, _, fun W hW => (k0.ext (D.trans hW)).loadAt 2 rfl (by kernel_rfl) rfl, exW ⟨by omega, by omega⟩ ?_⟩
  refine Ret.at (impl_natTen_c (by omega) (by omega)) ?_
  rintro v w3 ⟨p, n, c, hv, ho, y3⟩
  subst hv
  have hlen : n ≤ 4 := by
    have := ho.ints.1
    rw [← tenL_digs] at this
    simp [tenL] at this
    omega
  refine ⟨_, _, _, rfl, y3, ?_⟩
  refine Ret.at (impl_natMul_c (ha.ext (XD.trans y3)) ho.ints hz (digs_limbs _) (by omega) (by omega)) ?_
  rintro v w4 ⟨p2, n2, c2, hv, ho2, y4⟩
  subst hv
  rw [val_digs] at ho2
  refine ⟨_, _, _, rfl, y4, ?_⟩
  refine Ret.at (impl_signed_c ho2.ints.1) ?_
  rintro v w5 ⟨hv, y5⟩
  subst hv
  have l3 := y3.le
  obtain ⟨B, hB⟩ : ∃ B, B = (b && !(digs (val z * ((10 ^ (sc - s).toNat : Nat) : Int)).toNat).isEmpty) := ⟨_, rfl⟩
  rw [← hB]
  obtain ⟨w6, st, hb6, ch, sz⟩ := ((((hn2.blk.ext D).ext y3).ext y4).ext y5).storeA0 (P := P) (t := T_impl_Signed) (xs := [.bool B, .slice p2 n2 c2]) (by kernel_rfl) rfl (by simp [Value.oneCell'])
  refine ⟨_, _, _, _, rfl, w6, st, _, _, _, _, hb6.loadA0 (by kernel_rfl), _, _, rfl, ?_, nodup_opt p2, (((XD.trans y3).trans y4).trans y5).chg ch (by simp; omega)⟩
  have e10 : ((10 ^ (sc - s).toNat : Nat) : Int) = (10 : Int) ^ (sc - s).toNat := by simp
  rw [← e10]
  unfold mkS
  rw [← hB]
  exact ((Owns.int2 (ho2.ext y5)).chg1 ch (by omega)).mono (by omega)
end Go.Proofs.YtpaekkcgphljoaaGreatDoor

namespace Go.Proofs.YtpaekkcgphljoaaGreatDoor
open Go Go.Proofs.YtpaekkcgphljoaaGreatDoor.Sx
set_option linter.unusedVariables false
set_option linter.unusedSimpArgs false
/-- the sign of the difference of two valid decimal numbers, else 0 -/
def dcmp : List D0 → List D0 → Int
  | [.bool a, .ints x, .int s], [.bool b, .ints y, .int t] => if decOk [.bool a, .ints x, .int s] && decOk [.bool b, .ints y, .int t] then
      sgn (ival [.bool a, .ints x] * 10 ^ (max s t - s).toNat - ival [.bool b, .ints y] * 10 ^ (max s t - t).toNat) else 0
  | _, _ => 0
/-- a valid sign and limbs, times a power of ten -/
theorem mkS_mul {b : Bool} {z : List Int} {m : Int} (hok : intOk [.bool b, .ints z] = true) (hm : 0 < m) : mkS b (digs (val z * m).toNat) = enc (ival [.bool b, .ints z] * m) := by
  obtain ⟨_, _, _, he, hc, _⟩ := intOk_enc hok
  simp only [List.cons.injEq, D0.bool.injEq, D0.ints.injEq, and_true] at he
  obtain ⟨rfl, rfl⟩ := he
  have hv := val_nonneg hc.1
  have hp : 0 ≤ val z * m := Int.mul_nonneg hv (Int.le_of_lt hm)
  obtain ⟨N, hN⟩ : ∃ N : Nat, val z * m = N := ⟨(val z * m).toNat, by omega⟩
  cases b with
  | false => simp only [ival, Bool.false_eq_true, if_false, hN, Int.toNat_natCast]; exact mkS_pos N
  | true => simp only [ival, if_true, Int.neg_mul, hN, Int.toNat_natCast]; exact mkS_neg N
/-- few limbs, times a power of ten: few limbs -/
theorem scaled_len {b : Bool} {z : List Int} {e : Nat} (hok : intOk [.bool b, .ints z] = true) (hl : z.length ≤ 6) (he : e ≤ 30) : (digs (ival [.bool b, .ints z] * 10 ^ e).natAbs).length ≤ 10 := by
  obtain ⟨_, _, _, h1, hc, _⟩ := intOk_enc hok
  simp only [List.cons.injEq, D0.bool.injEq, D0.ints.injEq, and_true] at h1
  obtain ⟨rfl, rfl⟩ := h1
  have hv := val_nonneg hc.1
  have hlt := val_lt hc.1
  have h6 : (1000000000 : Nat) ^ z.length ≤ 1000000000 ^ 6 := Nat.pow_le_pow_right (by decide) hl
  have h6' := Int.ofNat_le.2 h6
  rw [Int.natCast_pow, Int.natCast_pow] at h6'
  have hn : (val z).toNat < 1000000000 ^ 6 := by
    have : val z < (1000000000 : Int) ^ 6 := Int.lt_of_lt_of_le hlt h6'
    omega
  have ha : (ival [.bool b, .ints z]).natAbs = (val z).toNat := by cases b <;> simp only [ival, if_true, Bool.false_eq_true, if_false] <;> omega
  have h10 : ((10 : Int) ^ e).natAbs = 10 ^ e := by simp [Int.natAbs_pow]
  have h30 : (10 : Nat) ^ e ≤ 10 ^ 30 := Nat.pow_le_pow_right (by decide) he
  apply digs_len
  rw [Int.natAbs_mul, ha, h10]
  exact Nat.lt_of_lt_of_le (Nat.mul_lt_mul_of_lt_of_le hn h30 (by decide)) (by decide)
/-- the comparison of valid integers is the sign of the difference -/
theorem icmp_enc {x y : Int} (hx : intOk (enc x) = true) (hy : intOk (enc y) = true) : icmp (enc x) (enc y) = sgn (x - y) := by
  have cv := cmpL_val (digs_canon x.natAbs) (digs_canon y.natAbs)
  have cv2 := cmpL_val (digs_canon y.natAbs) (digs_canon x.natAbs)
  rw [val_digs, val_digs] at cv cv2
  unfold enc at hx hy
  unfold enc
  simp only [icmp, hx, hy, Bool.not_true, Bool.or_self, Bool.false_eq_true, if_false, sgn]
  by_cases h1 : x < 0 <;> by_cases h2 : y < 0 <;> simp only [h1, h2, decide_true, decide_false, Bool.not_true, Bool.not_false, Bool.and_true, Bool.true_and, Bool.and_false, Bool.false_and, Bool.false_eq_true, if_true, if_false]
  · rcases cv2 with ⟨h, h'⟩ | ⟨h, h'⟩ | ⟨h, h'⟩ <;> rw [h] <;> (repeat' split) <;> omega
  · (repeat' split) <;> omega
  · (repeat' split) <;> omega
  · rcases cv with ⟨h, h'⟩ | ⟨h, h'⟩ | ⟨h, h'⟩ <;> rw [h] <;> (repeat' split) <;> omega
theorem decOk_spec {b : Bool} {z : List Int} {s : Int} (h : decOk [.bool b, .ints z, .int s] = true) : intOk [.bool b, .ints z] = true ∧ z.length ≤ 6 ∧ 0 ≤ s ∧ s ≤ 30 := by
  simp only [decOk, Bool.and_eq_true, decide_eq_true_eq] at h
  exact ⟨h.1.1, h.1.2, h.2.1, h.2.2⟩
theorem impl_DecCmp_c {w : World} {xs ys : List Value} {dx dy : List D0} (h : Reps w xs dx) (k : Reps w ys dy) (hc : dx.map D0.code = [.bool, .ints, .int]) (kc : dy.map D0.code = [.bool, .ints, .int]) :
    Ret P n_impl_DecCmp [.agg ⟨xs⟩, .agg ⟨ys⟩] w fun v w' => v = .int .i64 (dcmp dx dy) ∧ Ext w w' := by
  have hr := h; have kr := k
  obtain ⟨a0, a1p, a1n, a1c, a1z, a2, rfl, rfl, ha⟩ := open_Dec h hc
  obtain ⟨b0, b1p, b1n, b1c, b1z, b2, rfl, rfl, hb⟩ := open_Dec k kc
  refine impl_DecCmp_ret ?_
  unfold impl_DecCmp
  intro r w1 hn1 r1 w2 hn2
  have X := hn1.ext.trans hn2.ext
  have k0 := hn1.blk.ext hn2.ext; have k1 := hn2.blk
  have bad : ∀ W, Ext w2 W → (decOk [.bool a0, .ints a1z, .int a2] && decOk [.bool b0, .ints b1z, .int b2]) = false → Value.int .i64 0 = .int .i64 (dcmp [.bool a0, .ints a1z, .int a2] [.bool b0, .ints b1z, .int b2]) ∧ Ext w W := fun W hW hno => ⟨by simp only [dcmp, hno]; rfl, X.trans hW⟩
  refine ⟨_, _, _, _, _, k0.loadA0 (by kernel_rfl), ?_⟩
  refine Ret.at (impl_DecOk_c (hr.ext X) rfl) ?_
  rintro v w3 ⟨hv, y3⟩
  subst hv
  refine ⟨_, rfl, ifN (fun hno => ifT (bad w3 y3 (by simp [hno]))) (fun hok1 => ?_)⟩
  refine ⟨_, _, _, _, _, (k1.ext y3).loadA0 (by kernel_rfl), ?_⟩
  refine Ret.at (impl_DecOk_c (kr.ext (X.trans y3)) rfl) ?_
  rintro v w4 ⟨hv, y4⟩
  subst hv
  refine ⟨_, rfl, ifN (fun hno => bad w4 (y3.trans y4) (by simp [hno])) (fun hok2 => ?_)⟩
  obtain ⟨o1, l1, s1, t1⟩ := decOk_spec hok1
  obtain ⟨o2, l2, s2, t2⟩ := decOk_spec hok2
  have X4 := (X.trans y3).trans y4
  have k0 := (k0.ext y3).ext y4; have k1 := (k1.ext y3).ext y4
  unfold impl_DecCmp_j0
  have emax : (if b2 > a2 then b2 else a2) = max a2 b2 := by split <;> omega
  refine ⟨_, k0.loadAt 2 rfl (by kernel_rfl) rfl, _, k1.loadAt 2 rfl (by kernel_rfl) rfl, _, rfl, ?_⟩
  rw [emax]
  refine Ret.at (R := fun v w' => ∃ r, v = .func (.func n_impl_scaled_1) ⟨[]⟩ ⟨[.pointer (some ⟨r, 0, none⟩)]⟩ ∧ Blk w' r T_int [.int .i64 (max a2 b2)] ∧ Ext w4 w') ?_ ?_
  · refine impl_scaled_ret ?_
    unfold impl_scaled
    intro r5 w5 hn5
    exact ⟨r5, rfl, hn5.blk, hn5.ext⟩
  rintro v w5 ⟨r5, hv, hb5, y5⟩
  subst hv
  have D := Ext.drew w5
  have X5 := (X4.trans y5).trans D
  have q0 := (k0.ext y5).ext D; have q1 := (k1.ext y5).ext D
  have la := (intOk_enc o1).2
  obtain ⟨_, _, h1, c1, _⟩ := la
  simp only [List.cons.injEq, D0.bool.injEq, D0.ints.injEq, and_true] at h1
  obtain ⟨rfl, rfl⟩ := h1
  obtain ⟨_, _, h2, c2, _⟩ := (intOk_enc o2).2
  simp only [List.cons.injEq, D0.bool.injEq, D0.ints.injEq, and_true] at h2
  obtain ⟨rfl, rfl⟩ := h2
  have p1 : (0 : Int) < 10 ^ (max a2 b2 - a2).toNat := Int.pow_pos (by decide)
  have p2 : (0 : Int) < 10 ^ (max a2 b2 - b2).toNat := Int.pow_pos (by decide)
  refine ⟨_, rfl, _, _, _, _, _, fun W hW => (q0.ext hW).loadA0 (by kernel_rfl), _, _, _, rfl, by kernel_rfl, ?_⟩
  refine Calls.mono (impl_scaled_1_c (hr.ext X5) c1.1 (by omega) (by omega) (by omega) (by omega) (hb5.ext D)) ?_
  rintro e w6 ⟨v, he, vs1, f1, hv, ho1, _, y6⟩
  subst hv
  rw [mkS_mul o1 p1] at ho1
  obtain ⟨g0, gp, gn, gc, gz, rfl, hg, hgi⟩ := open_Signed ho1.reps (enc_code _)
  refine ⟨_, _, _, _, he, y6, _, _, _, _, _, fun W hW => (q1.ext hW).loadA0 (by kernel_rfl), _, _, _, rfl, by kernel_rfl, ?_⟩
  refine Calls.mono (impl_scaled_1_c (kr.ext (X5.trans y6)) c2.1 (by omega) (by omega) (by omega) (by omega) ((hb5.ext D).ext y6)) ?_
  rintro e w7 ⟨v, he2, vs2, f2, hv, ho2, _, y7⟩
  subst hv
  rw [mkS_mul o2 p2] at ho2
  obtain ⟨g20, g2p, g2n, g2c, g2z, rfl, hg2, hgi2⟩ := open_Signed ho2.reps (enc_code _)
  refine ⟨_, _, _, _, he2, ?_⟩
  refine Ret.at (impl_intCmp_c (ho1.reps.ext y7) ho2.reps (Nat.le_trans (scaled_len o1 l1 (by omega)) (by decide)) (Nat.le_trans (scaled_len o2 l2 (by omega)) (by decide))) ?_
  rintro v w8 ⟨hv, y8⟩
  subst hv
  refine ⟨_, rfl, ?_, ((X5.trans y6).trans y7).trans y8⟩
  simp only [dcmp, hok1, hok2, Bool.and_self, if_true]
end Go.Proofs.YtpaekkcgphljoaaGreatDoor

namespace Go.Proofs.YtpaekkcgphljoaaGreatDoor
open Go Go.Proofs.YtpaekkcgphljoaaGreatDoor.Sx
set_option linter.unusedVariables false
set_option linter.unusedSimpArgs false
def imul (d e : List D0) : List D0 := if intOk d && intOk e then icap (ival d * ival e) else enc 0
theorem enc_nat (n : Nat) : enc (n : Int) = [.bool false, .ints (digs n)] := (mkS_pos n).symm
theorem enc_ok {z : Int} (h : (digs z.natAbs).length ≤ 50) : intOk (enc z) = true := by rw [← icap_fit h]; exact icap_ok z
theorem ten_len {k : Nat} (h : k ≤ 30) : (digs (10 ^ k)).length ≤ 4 := by
  apply digs_len
  have : (10 : Nat) ^ k ≤ 10 ^ 30 := Nat.pow_le_pow_right (by decide) h
  exact Nat.lt_of_le_of_lt this (by decide)
/-- the sign and the limbs of a product -/
theorem prod_enc {b c : Bool} {z y : List Int} (hz : Limbs z) (hy : Limbs y) : mkS (!(b == c)) (capL (digs (val z * val y).toNat)) = icap (ival [.bool b, .ints z] * ival [.bool c, .ints y]) := by
  have h1 := val_nonneg hz; have h2 := val_nonneg hy
  have hp : 0 ≤ val z * val y := Int.mul_nonneg h1 h2
  obtain ⟨Q, hQ⟩ : ∃ Q, Q = val z * val y := ⟨_, rfl⟩
  rw [← hQ] at hp ⊢
  apply mkS_digs
  · cases b <;> cases c <;> simp only [ival, if_true, Bool.false_eq_true, if_false, Int.neg_mul, Int.mul_neg, Int.neg_neg, ← hQ] <;> omega
  · intro h0
    cases b <;> cases c <;> simp only [ival, if_true, Bool.false_eq_true, if_false, Int.neg_mul, Int.mul_neg, Int.neg_neg, ← hQ] <;> simp <;> omega
theorem spec_IntMul_c {w : World} {xs ys : List Value} {dx dy : List D0} (h : Reps w xs dx) (k : Reps w ys dy) (hc : dx.map D0.code = [.bool, .ints]) (kc : dy.map D0.code = [.bool, .ints]) :
    Ret P n_spec_IntMul [.agg ⟨xs⟩, .agg ⟨ys⟩] w fun v w' => ∃ vs' f, v = .agg ⟨vs'⟩ ∧ Owns w' w.heap.size vs' (imul dx dy) f ∧ f.Nodup ∧ Ext w w' := by
  have hr := h; have kr := k
  obtain ⟨a0, a1p, a1n, a1c, a1z, rfl, rfl, ha⟩ := open_Signed h hc
  obtain ⟨b0, b1p, b1n, b1c, b1z, rfl, rfl, hb⟩ := open_Signed k kc
  refine spec_IntMul_ret ?_
  unfold spec_IntMul
  intro r w1 hn1 r1 w2 hn2 r2 w3 hn3
  have X := (hn1.ext.trans hn2.ext).trans hn3.ext
  have e1 := hn1.r_eq; have e2 := hn2.r_eq; have e3 := hn3.r_eq; have s1 := hn1.size; have s2 := hn2.size; have s3 := hn3.size
  have k0 := (hn1.blk.ext hn2.ext).ext hn3.ext; have k1 := hn2.blk.ext hn3.ext; have k2 := hn3.blk
  have bad : ∀ W, Ext w3 W → (intOk [.bool a0, .ints a1z] && intOk [.bool b0, .ints b1z]) = false → ∃ wv_8, Stores P T_impl_Signed ⟨r2, 0, none⟩ (.agg #[(.bool false), (.slice none 0 0)]) W wv_8 ∧
      ∃ (r0 : Bool) (r1_p : Option Addr) (r1_n : Nat) (r1_c : Nat), Loads P T_impl_Signed ⟨r2, 0, none⟩ (.agg #[(.bool r0), (.slice r1_p r1_n r1_c)]) wv_8 ∧ (fun (v : Value) (w' : World) => ∃ vs' f, v = .agg ⟨vs'⟩ ∧ Owns w' w.heap.size vs' (imul [.bool a0, .ints a1z] [.bool b0, .ints b1z]) f ∧ f.Nodup ∧ Ext w w') (.agg #[(.bool r0), (.slice r1_p r1_n r1_c)]) wv_8 := by
    intro W hW hno
    obtain ⟨w5, st, hb5, ch, sz⟩ := (k2.ext hW).storeA0 (P := P) (t := T_impl_Signed) (xs := [.bool false, .slice none 0 0]) (by kernel_rfl) rfl (by simp [Value.oneCell'])
    refine ⟨w5, st, _, _, _, _, hb5.loadA0 (by kernel_rfl), _, _, rfl, ?_, nodup_opt none, (X.trans hW).chg ch (by simp; omega)⟩
    have : imul [.bool a0, .ints a1z] [.bool b0, .ints b1z] = [.bool false, .ints []] := by rw [imul, hno, ← enc0]; rfl
    rw [this]
    exact Owns.int2 (z := []) (Own.nil w5 _ T_int 1 : Own w5 w.heap.size T_int 1 none 0 0 (([] : List Int).map (Value.int .i64)))
  refine ⟨_, _, _, _, k0.loadA0 (by kernel_rfl), ?_⟩
  refine Ret.at (spec_IntOk_c (hr.ext X) rfl) ?_
  rintro v w4 ⟨hv, y4⟩
  subst hv
  refine ⟨_, rfl, ifN (fun hno => ifT (bad w4 y4 (by simp [hno]))) (fun hok1 => ?_)⟩
  refine ⟨_, _, _, _, (k1.ext y4).loadA0 (by kernel_rfl), ?_⟩
  refine Ret.at (spec_IntOk_c (kr.ext (X.trans y4)) rfl) ?_
  rintro v w5 ⟨hv, y5⟩
  subst hv
  refine ⟨_, rfl, ifN (fun hno => bad w5 (y4.trans y5) (by simp [hno])) (fun hok2 => ?_)⟩
  have D := Ext.drew w5
  have X5 := ((X.trans y4).trans y5).trans D
  have q0 := (k0.ext y4).ext y5; have q1 := (k1.ext y4).ext y5; have q2 := ((k2.ext y4).ext y5).ext D
  have la := (intOk_enc hok1).2
  obtain ⟨_, _, h1, c1, l1⟩ := la
  simp only [List.cons.injEq, D0.bool.injEq, D0.ints.injEq, and_true] at h1
  obtain ⟨rfl, rfl⟩ := h1
  obtain ⟨_, _, h2, c2, l2⟩ := (intOk_enc hok2).2
  simp only [List.cons.injEq, D0.bool.injEq, D0.ints.injEq, and_true] at h2
  obtain ⟨rfl, rfl⟩ := h2
  have ln1 := ha.1; have ln2 := hb.1
  refine ⟨_, fun W hW => (q0.ext (D.trans hW)).loadAt 0 rfl (by kernel_rfl) rfl, _, fun W hW => (q1.ext (D.trans hW)).loadAt 0 rfl (by kernel_rfl) rfl, _, _, _, fun W hW => (q0.ext (D.trans hW)).loadAt 1 rfl (by kernel_rfl) rfl, _, _, _, fun W hW => (q1.ext (D.trans hW)).loadAt 1 rfl (by kernel_rfl) rfl, ?_⟩
  refine Ret.at (spec_l02Mul_c (ha.ext X5) (hb.ext X5) c1.1 c2.1 (by omega) (by omega)) ?_
  rintro v w6 ⟨p, n, c, hv, ho, y6⟩
  subst hv
  refine ⟨_, _, _, rfl, y6, ?_⟩
  refine Ret.at (spec_l04Make_c ho.ints (digs_limbs _)) ?_
  rintro v w7 ⟨b, q, qn, qc, hv, hbb, ho2, y7⟩
  subst hv
  have l3 := X5.le; have l6 := y6.le
  obtain ⟨w8, st, hb8, ch, sz⟩ := ((q2.ext y6).ext y7).storeA0 (P := P) (t := T_impl_Signed) (xs := [.bool b, .slice q qn qc]) (by kernel_rfl) rfl (by simp [Value.oneCell'])
  have ow := Owns.int2 (b := b) ho2
  rw [hbb] at ow
  rw [val_digs, show ((((val a1z * val b1z).toNat : Nat) : Int)).toNat = (val a1z * val b1z).toNat from rfl] at ow
  have ow2 : Owns w7 w6.heap.size [.bool b, .slice q qn qc] (imul [.bool a0, .ints a1z] [.bool b0, .ints b1z]) (q.map (·.block)).toList := by
    rw [imul, hok1, hok2]
    simp only [Bool.and_self, if_true]
    rw [← prod_enc c1.1 c2.1, hbb, val_digs]
    exact ow
  have l35 := y4.le; have l45 := y5.le; have lD := D.le
  exact ⟨_, _, _, _, rfl, w8, st, _, _, _, _, hb8.loadA0 (by kernel_rfl), _, _, rfl, (ow2.chg1 ch (by omega)).mono (by omega), nodup_opt q, ((X5.trans y6).trans y7).chg ch (by simp; omega)⟩
theorem spec_l07Ten_c {w : World} {k : Int} (h0 : 0 ≤ k) (h1 : k ≤ 449) :
    Ret P n_spec_l07Ten [.int .i64 k] w fun v w' => ∃ vs' f, v = .agg ⟨vs'⟩ ∧ Owns w' w.heap.size vs' (enc ((10 ^ k.toNat : Nat) : Int)) f ∧ f.Nodup ∧ Ext w w' := by
  refine spec_l07Ten_ret ?_
  unfold spec_l07Ten
  intro r w1 hn1
  have e1 := hn1.r_eq; have s1 := hn1.size
  refine Ret.at (spec_NatTen_c h0 h1) ?_
  rintro v w2 ⟨p, n, c, hv, ho, y2⟩
  subst hv
  obtain ⟨w3, st, hb3, ch, sz⟩ := (hn1.blk.ext y2).storeA0 (P := P) (t := T_impl_Signed) (xs := [.bool false, .slice p n c]) (by kernel_rfl) rfl (by simp [Value.oneCell'])
  refine ⟨_, _, _, rfl, w3, st, _, _, _, _, hb3.loadA0 (by kernel_rfl), _, _, rfl, ?_, nodup_opt p, (hn1.ext.trans y2).chg ch (by simp; omega)⟩
  rw [enc_nat]
  exact ((Owns.int2 ho).chg1 ch (by omega)).mono (by omega)
theorem spec_l07Both_c {w : World} {xs ys : List Value} {b c : Bool} {z y : List Int} {s t : Int} (h : Reps w xs [.bool b, .ints z, .int s]) (k : Reps w ys [.bool c, .ints y, .int t]) (hok1 : decOk [.bool b, .ints z, .int s] = true) (hok2 : decOk [.bool c, .ints y, .int t] = true) :
    Ret P n_spec_l07Both [.agg ⟨xs⟩, .agg ⟨ys⟩] w fun v w' => ∃ us vs, v = .tuple #[.agg ⟨us⟩, .agg ⟨vs⟩, .int .i64 (max s t)] ∧ Reps w' us (enc (ival [.bool b, .ints z] * 10 ^ (max s t - s).toNat)) ∧ Reps w' vs (enc (ival [.bool c, .ints y] * 10 ^ (max s t - t).toNat)) ∧ Ext w w' := by
  have hr := h; have kr := k
  obtain ⟨a0, a1p, a1n, a1c, a1z, a2, rfl, hd, ha⟩ := open_Dec h rfl
  obtain ⟨b0, b1p, b1n, b1c, b1z, b2, rfl, he, hb⟩ := open_Dec k rfl
  cases hd; cases he
  obtain ⟨o1, l1, s1, t1⟩ := decOk_spec hok1
  obtain ⟨o2, l2, s2, t2⟩ := decOk_spec hok2
  refine spec_l07Both_ret ?_
  unfold spec_l07Both
  intro r w1 hn1 r1 w2 hn2 r2 w3 hn3 r3 w4 hn4
  have X := ((hn1.ext.trans hn2.ext).trans hn3.ext).trans hn4.ext
  have e1 := hn1.r_eq; have e2 := hn2.r_eq; have e3 := hn3.r_eq; have e4 := hn4.r_eq; have z1 := hn1.size; have z2 := hn2.size; have z3 := hn3.size; have z4 := hn4.size
  have k0 := ((hn1.blk.ext hn2.ext).ext hn3.ext).ext hn4.ext; have k1 := (hn2.blk.ext hn3.ext).ext hn4.ext; have k2 := hn3.blk.ext hn4.ext; have k3 := hn4.blk
  have j : ∀ m : Int, m = max s t → spec_l07Both_j0 r r1 r2 r3 m w4 fun v w' => ∃ us vs, v = .tuple #[.agg ⟨us⟩, .agg ⟨vs⟩, .int .i64 (max s t)] ∧ Reps w' us (enc (ival [.bool b, .ints z] * 10 ^ (max s t - s).toNat)) ∧ Reps w' vs (enc (ival [.bool c, .ints y] * 10 ^ (max s t - t).toNat)) ∧ Ext w w' := by
    intro m hm
    subst hm
    unfold spec_l07Both_j0
    have D := Ext.drew w4
    have XD := X.trans D
    have p1 := scaled_len o1 l1 (e := (max s t - s).toNat) (by omega)
    have p2 := scaled_len o2 l2 (e := (max s t - t).toNat) (by omega)
    have q1 := ten_len (k := (max s t - s).toNat) (by omega)
    have q2 := ten_len (k := (max s t - t).toNat) (by omega)
    have lD := D.le
    refine ⟨_, _, _, _, fun W hW => (k0.ext (D.trans hW)).loadAAt 0 [.bool b, .slice a1p a1n a1c] rfl (by kernel_rfl) rfl, _, fun W hW => (k0.ext (D.trans hW)).loadAt 2 rfl (by kernel_rfl) rfl, exW ⟨by omega, by omega⟩ ?_⟩
    refine Ret.at (spec_l07Ten_c (by omega) (by omega)) ?_
    rintro v w5 ⟨vs5, f5, hv, ho5, _, y5⟩
    subst hv
    obtain ⟨g0, gp, gn, gc, gz, rfl, hg, hgi⟩ := open_Signed ho5.reps (enc_code _)
    refine ⟨_, _, _, _, rfl, y5, ?_⟩
    have hx : Reps w4.drew [.bool b, .slice a1p a1n a1c] [.bool b, .ints z] := ⟨rfl, ⟨_, _, _, rfl, ha.ext XD⟩, trivial⟩
    have hy : Reps w4.drew [.bool c, .slice b1p b1n b1c] [.bool c, .ints y] := ⟨rfl, ⟨_, _, _, rfl, hb.ext XD⟩, trivial⟩
    refine Ret.at (spec_IntMul_c (hx.ext y5) ho5.reps rfl (enc_code _)) ?_
    rintro v w6 ⟨vs6, f6, hv, ho6, _, y6⟩
    subst hv
    have ee : ∀ (d : List D0) (m : Nat), intOk d = true → (digs (10 ^ m)).length ≤ 4 → (digs (ival d * 10 ^ m).natAbs).length ≤ 10 → imul d (enc ((10 ^ m : Nat) : Int)) = enc (ival d * 10 ^ m) := by
      intro d m hd h1 h2
      have e : ((10 ^ m : Nat) : Int) = (10 : Int) ^ m := by simp
      rw [imul, hd, enc_ok (by rw [Int.natAbs_natCast]; omega)]
      simp only [Bool.and_self, if_true]
      rw [ival_enc, e]
      exact icap_fit (by omega)
    rw [ee _ _ o1 q1 p1] at ho6
    obtain ⟨g0, gp, gn, gc, gz, rfl, hg, hgi⟩ := open_Signed ho6.reps (enc_code _)
    refine ⟨_, _, _, _, rfl, y6, _, _, _, _, fun W hW => (k1.ext (D.trans hW)).loadAAt 0 [.bool c, .slice b1p b1n b1c] rfl (by kernel_rfl) rfl, _, fun W hW => (k1.ext (D.trans hW)).loadAt 2 rfl (by kernel_rfl) rfl, exW ⟨by omega, by omega⟩ ?_⟩
    refine Ret.at (spec_l07Ten_c (by omega) (by omega)) ?_
    rintro v w7 ⟨vs7, f7, hv, ho7, _, y7⟩
    subst hv
    obtain ⟨i0, ip, i_n, ic, iz, rfl, hi, hii⟩ := open_Signed ho7.reps (enc_code _)
    refine ⟨_, _, _, _, rfl, y7, ?_⟩
    refine Ret.at (spec_IntMul_c (((hy.ext y5).ext y6).ext y7) ho7.reps rfl (enc_code _)) ?_
    rintro v w8 ⟨vs8, f8, hv, ho8, _, y8⟩
    subst hv
    rw [ee _ _ o2 q2 p2] at ho8
    obtain ⟨i0, ip, i_n, ic, iz, rfl, hi, hii⟩ := open_Signed ho8.reps (enc_code _)
    have l5 := y5.le; have l6 := y6.le; have l7 := y7.le; have l8 := y8.le
    have Y := (((D.trans y5).trans y6).trans y7).trans y8
    obtain ⟨w9, st9, hb9, ch9, sz9⟩ := (k2.ext Y).storeA0 (P := P) (t := T_impl_Signed) (xs := [.bool g0, .slice gp gn gc]) (by kernel_rfl) rfl (by simp [Value.oneCell'])
    obtain ⟨w10, st10, hb10, ch10, sz10⟩ := ((k3.ext Y).chg ch9 (by simp; omega)).storeA0 (P := P) (t := T_impl_Signed) (xs := [.bool i0, .slice ip i_n ic]) (by kernel_rfl) rfl (by simp [Value.oneCell'])
    have r6 := ((((ho6.ext y7).ext y8).chg1 ch9 (by omega)).chg1 ch10 (by omega)).reps
    have r8 := ((ho8.chg1 ch9 (by omega)).chg1 ch10 (by omega)).reps
    exact ⟨_, _, _, _, rfl, w9, st9, w10, st10, _, _, _, _, (hb9.chg ch10 (by simp; omega)).loadA0 (by kernel_rfl), _, _, _, _, hb10.loadA0 (by kernel_rfl), _, _, rfl, r6, r8, ((X.trans Y).chg ch9 (by simp; omega)).chg ch10 (by simp; omega)⟩
  refine ⟨_, k0.loadAt 2 rfl (by kernel_rfl) rfl, _, k1.loadAt 2 rfl (by kernel_rfl) rfl, ifD (fun hlt => ⟨_, k1.loadAt 2 rfl (by kernel_rfl) rfl, j _ (by omega)⟩) (fun hge => j _ (by omega))⟩
theorem spec_DecCmp_c {w : World} {xs ys : List Value} {dx dy : List D0} (h : Reps w xs dx) (k : Reps w ys dy) (hc : dx.map D0.code = [.bool, .ints, .int]) (kc : dy.map D0.code = [.bool, .ints, .int]) :
    Ret P n_spec_DecCmp [.agg ⟨xs⟩, .agg ⟨ys⟩] w fun v w' => v = .int .i64 (dcmp dx dy) ∧ Ext w w' := by
  have hr := h; have kr := k
  obtain ⟨a0, a1p, a1n, a1c, a1z, a2, rfl, rfl, ha⟩ := open_Dec h hc
  obtain ⟨b0, b1p, b1n, b1c, b1z, b2, rfl, rfl, hb⟩ := open_Dec k kc
  refine spec_DecCmp_ret ?_
  unfold spec_DecCmp
  intro r w1 hn1 r1 w2 hn2
  have X := hn1.ext.trans hn2.ext
  have k0 := hn1.blk.ext hn2.ext; have k1 := hn2.blk
  have bad : ∀ W, Ext w2 W → (decOk [.bool a0, .ints a1z, .int a2] && decOk [.bool b0, .ints b1z, .int b2]) = false → Value.int .i64 0 = .int .i64 (dcmp [.bool a0, .ints a1z, .int a2] [.bool b0, .ints b1z, .int b2]) ∧ Ext w W := fun W hW hno => ⟨by simp only [dcmp, hno]; rfl, X.trans hW⟩
  refine ⟨_, _, _, _, _, k0.loadA0 (by kernel_rfl), ?_⟩
  refine Ret.at (spec_DecOk_c (hr.ext X) rfl) ?_
  rintro v w3 ⟨hv, y3⟩
  subst hv
  refine ⟨_, rfl, ifN (fun hno => ifT (bad w3 y3 (by simp [hno]))) (fun hok1 => ?_)⟩
  refine ⟨_, _, _, _, _, (k1.ext y3).loadA0 (by kernel_rfl), ?_⟩
  refine Ret.at (spec_DecOk_c (kr.ext (X.trans y3)) rfl) ?_
  rintro v w4 ⟨hv, y4⟩
  subst hv
  refine ⟨_, rfl, ifN (fun hno => bad w4 (y3.trans y4) (by simp [hno])) (fun hok2 => ?_)⟩
  obtain ⟨o1, l1, s1, t1⟩ := decOk_spec hok1
  obtain ⟨o2, l2, s2, t2⟩ := decOk_spec hok2
  have X4 := (X.trans y3).trans y4
  unfold spec_DecCmp_j0
  refine ⟨_, _, _, _, _, ((k0.ext y3).ext y4).loadA0 (by kernel_rfl), _, _, _, _, _, ((k1.ext y3).ext y4).loadA0 (by kernel_rfl), ?_⟩
  refine Ret.at (spec_l07Both_c (hr.ext X4) (kr.ext X4) hok1 hok2) ?_
  rintro v w5 ⟨us, vs, hv, g1, g2, y5⟩
  subst hv
  have g1' := g1; have g2' := g2
  obtain ⟨g0, gp, gn, gc, gz, rfl, hg, hgi⟩ := open_Signed g1 (enc_code _)
  obtain ⟨i0, ip, i_n, ic, iz, rfl, hi, hii⟩ := open_Signed g2 (enc_code _)
  refine ⟨_, _, _, _, _, _, _, _, _, rfl, ?_⟩
  intro r2 w6 hn6 r3 w7 hn7
  have e6 := hn6.r_eq; have e7 := hn7.r_eq; have z6 := hn6.size; have z7 := hn7.size
  obtain ⟨w8, st8, hb8, ch8, sz8⟩ := (hn6.blk.ext hn7.ext).storeA0 (P := P) (t := T_impl_Signed) (xs := [.bool g0, .slice gp gn gc]) (by kernel_rfl) rfl (by simp [Value.oneCell'])
  obtain ⟨w9, st9, hb9, ch9, sz9⟩ := (hn7.blk.chg ch8 (by simp; omega)).storeA0 (P := P) (t := T_impl_Signed) (xs := [.bool i0, .slice ip i_n ic]) (by kernel_rfl) rfl (by simp [Value.oneCell'])
  have Y := (((hn6.ext.trans hn7.ext).chg ch8 (by simp; omega)).chg ch9 (by simp; omega))
  refine ⟨w8, st8, w9, st9, _, _, _, _, (hb8.chg ch9 (by simp; omega)).loadA0 (by kernel_rfl), _, _, _, _, hb9.loadA0 (by kernel_rfl), ?_⟩
  refine Ret.at (spec_IntCmp_c (g1'.ext Y) (g2'.ext Y) (enc_code _) (enc_code _)) ?_
  rintro v w10 ⟨hv, y10⟩
  subst hv
  refine ⟨_, rfl, ?_, ((X4.trans y5).trans Y).trans y10⟩
  have p1 := scaled_len o1 l1 (e := (max a2 b2 - a2).toNat) (by omega)
  have p2 := scaled_len o2 l2 (e := (max a2 b2 - b2).toNat) (by omega)
  rw [icmp_enc (enc_ok (by omega)) (enc_ok (by omega))]
  simp only [dcmp, hok1, hok2, Bool.and_self, if_true]
end Go.Proofs.YtpaekkcgphljoaaGreatDoor

namespace Go.Proofs.YtpaekkcgphljoaaGreatDoor.Sx
open Go
set_option linter.unusedVariables false
set_option linter.unusedSimpArgs false
theorem mem_opt {o : Option Nat} {q : Nat} (h : o = some q) : q ∈ o.toList := by subst h; simp
theorem opt_mem {o : Option Nat} {q : Nat} (h : q ∈ o.toList) : o = some q := by cases o <;> simp_all
theorem Owns.done {w : World} {B : Nat} {vs : List Value} {ds : List D0} {f : List Nat} (h : Owns w B vs ds f) (hc : ds.map D0.code = []) : vs = [] ∧ ds = [] ∧ f = [] := by
  match vs, ds, h, hc with
  | [], [], h, _ => exact ⟨rfl, rfl, h⟩
  | v :: us, [], h, _ => exact h.elim
theorem Blk.segMid {w : World} {b o : Nat} {e : TypeId} {xs cur zs : List Value} (h : Blk w b e (xs ++ cur ++ zs)) (hA : xs.length = o) : Seg w b o cur := by
  subst hA
  have h1 := h.seg
  have h2 := (h1.drop xs.length).take cur.length
  rw [List.append_assoc, List.drop_left, List.take_left] at h2
  simpa using h2
theorem Blk.storeMid {P : Program} {w : World} {t : TypeId} {b o : Nat} {e : TypeId} {xs cur zs : List Value} {v : Value} (h : Blk w b e (xs ++ cur ++ zs)) (hA : xs.length = o) (j : Nat) (hj : j < cur.length) (ht : cellT P t = true) (hv : v.oneCell' = true) {a : Addr} (ha : a = ⟨b, o + j, none⟩) :
    ∃ w', Stores P t a v w w' ∧ Blk w' b e (xs ++ cur.set j v ++ zs) ∧ Chg [b] w w' ∧ w'.heap.size = w.heap.size := by
  subst ha; subst hA
  obtain ⟨w', h1, h2, h3, h4⟩ := h.store (P := P) (k := xs.length + j) (v := v) ht (by simp; omega) hv
  refine ⟨w', by rw [addr_add, Nat.zero_add] at h1; exact h1, ?_, h3, h4⟩
  rw [List.append_assoc, List.set_append_right _ _ (by omega), Nat.add_sub_cancel_left, List.set_append_left _ _ hj, ← List.append_assoc] at h2
  exact h2
theorem Own.blk {w : World} {B : Nat} {e : TypeId} {size : Nat} {p : Option Addr} {n c : Nat} {xs : List Value} (h : Own w B e size p n c xs) (hn : 0 < n) :
    ∃ b ys, p = some ⟨b, 0, none⟩ ∧ B ≤ b ∧ Blk w b e ys ∧ ys.length = c * size ∧ n ≤ c ∧ c ≤ maxLen ∧ ys.take (n * size) = xs := by
  rcases h.2 with ⟨h1, h2⟩ | ⟨g, cap, cur, h1, hb, hg, h3, h4, h5, h6⟩
  · omega
  · simp only [Value.slice.injEq] at h1
    obtain ⟨e1, _, e3⟩ := h1
    have e3 : c = cap := by omega
    subst e3
    exact ⟨g, cur.toList, e1, hb, hg, by simpa using h5, h3, h4, h6⟩
theorem Own.of_blk' {w : World} {B : Nat} {e : TypeId} {size : Nat} {b n c : Nat} {ys : List Value} (h : Blk w b e ys) (hb : B ≤ b) (hl : ys.length = c * size) (hn : n ≤ c) (hc : c ≤ maxLen) : Own w B e size (some ⟨b, 0, none⟩) n c (ys.take (n * size)) :=
  ⟨by
    have : n * size ≤ c * size := Nat.mul_le_mul_right _ hn
    simp; omega, .inr ⟨b, c, ⟨ys⟩, rfl, hb, h, hn, hc, by simpa using hl, rfl⟩⟩
/-- a cell of one's own slice is stored -/
theorem Own.set {P : Program} {w : World} {B : Nat} {e : TypeId} {size : Nat} {p : Option Addr} {n c : Nat} {xs : List Value} (h : Own w B e size p n c xs) {t : TypeId} {i : Nat} {v : Value} (hi : i < xs.length) (ht : cellT P t = true) (hv : v.oneCell' = true) :
    ∃ b w', p = some ⟨b, 0, none⟩ ∧ Stores P t ((⟨b, 0, none⟩ : Addr).add i) v w w' ∧ Own w' B e size p n c (xs.set i v) ∧ Chg (p.map (·.block)).toList w w' ∧ w'.heap.size = w.heap.size := by
  have hl := h.len
  have hn : 0 < n := by
    rcases Nat.eq_zero_or_pos n with h0 | h0
    · subst h0; simp at hl; rw [hl] at hi; simp at hi
    · exact h0
  obtain ⟨b, ys, rfl, hb, hblk, hyl, hnc, hc, hx⟩ := h.blk hn
  have hle : n * size ≤ c * size := Nat.mul_le_mul_right _ hnc
  obtain ⟨w', st, hb', ch, sz⟩ := hblk.store (P := P) (t := t) (k := i) (v := v) ht (by omega) hv
  refine ⟨b, w', rfl, st, ?_, by simpa using ch, sz⟩
  have := Own.of_blk' (n := n) hb' hb (by simpa using hyl) hnc hc
  rw [List.take_set, hx] at this
  exact this
theorem AllO.set {S : List Nat} {w w' : World} {B k : Nat} {cs' : List Value} {x' : List D0} (hc : Chg S w w') (hk : cs'.length = k) : ∀ {css : List (List Value)} {l : List (List D0)} {fs : List (List Nat)}, AllO w B k css l fs → ∀ (i : Nat) (fi : List Nat), fs[i]? = some fi →
    Owns w' B cs' x' fi → (∀ (j : Nat) (f : List Nat), j ≠ i → fs[j]? = some f → ∀ y ∈ f, y ∉ S) → AllO w' B k (css.set i cs') (l.set i x') fs
  | [], [], [], _, i, fi, hx, _, _ => by simp at hx
  | cs :: css, y :: l, f :: fs, h, 0, fi, hx, ho, hS => by
    simp only [List.getElem?_cons_zero, Option.some.injEq] at hx
    subst hx
    refine ⟨hk, ho, h.2.2.chg hc fun y hy => ?_⟩
    obtain ⟨f', hf, hyf⟩ := List.mem_flatten.1 hy
    obtain ⟨j, hj, e⟩ := List.getElem_of_mem hf
    exact hS (j + 1) f' (by omega) (by simp [List.getElem?_eq_getElem hj, e]) y hyf
  | cs :: css, y :: l, f :: fs, h, i + 1, fi, hx, ho, hS => by
    simp only [List.getElem?_cons_succ] at hx
    refine ⟨h.1, h.2.1.chg hc fun y hy => hS 0 f (by omega) rfl y hy, AllO.set hc hk h.2.2 i fi hx ho fun j f' hj hf => hS (j + 1) f' (by omega) (by simpa using hf)⟩
  | [], [], _ :: _, h, _, _, _, _, _ => h.elim
  | [], _ :: _, _, h, _, _, _, _, _ => h.elim
  | _ :: _, [], _, h, _, _, _, _, _ => h.elim
  | _ :: _, _ :: _, [], h, _, _, _, _, _ => h.elim
end Go.Proofs.YtpaekkcgphljoaaGreatDoor.Sx

namespace Go.Proofs.YtpaekkcgphljoaaGreatDoor
open Go Go.Proofs.YtpaekkcgphljoaaGreatDoor.Sx
set_option linter.unusedVariables false
set_option linter.unusedSimpArgs false
theorem mid_get {w : World} {b off : Nat} {xs zs : List Value} {u : List Int} (h : Blk w b T_int (xs ++ u.map (Value.int .i64) ++ zs)) (hA : xs.length = off) {i : Nat} (hi : i < u.length) :
    Loads P T_int ((⟨b, off, none⟩ : Addr).add (i * 1)) (.int .i64 (u.getD i 0)) w := by
  rw [Nat.mul_one]
  refine (h.segMid hA).load (by kernel_rfl) ?_
  rw [List.getElem?_map, List.getD_eq_getElem?_getD, List.getElem?_eq_getElem hi]; rfl
theorem mid_set {w : World} {b off : Nat} {xs zs : List Value} {u : List Int} (h : Blk w b T_int (xs ++ u.map (Value.int .i64) ++ zs)) (hA : xs.length = off) {i : Nat} (hi : i < u.length) (x : Int) :
    ∃ w', Stores P T_int ((⟨b, off, none⟩ : Addr).add (i * 1)) (.int .i64 x) w w' ∧ Blk w' b T_int (xs ++ (u.set i x).map (Value.int .i64) ++ zs) ∧ Chg [b] w w' ∧ w'.heap.size = w.heap.size := by
  obtain ⟨w', h1, h2, h3, h4⟩ := h.storeMid (P := P) (t := T_int) (v := .int .i64 x) hA i (by simpa using hi) (by kernel_rfl) rfl (a := (⟨b, off, none⟩ : Addr).add (i * 1)) (by rw [addr_add, Nat.mul_one])
  exact ⟨w', h1, by rw [List.map_set]; exact h2, h3, h4⟩
theorem getD_set_ne {u : List Int} {i j : Nat} (x : Int) (h : i ≠ j) : (u.set i x).getD j 0 = u.getD j 0 := by
  rw [List.getD_eq_getElem?_getD, List.getElem?_set_ne h, ← List.getD_eq_getElem?_getD]
theorem getD_set_eq {u : List Int} {i : Nat} (x : Int) (h : i < u.length) : (u.set i x).getD i 0 = x := by
  rw [List.getD_eq_getElem?_getD, List.getElem?_set_self h]; rfl
theorem take_set_succ {u : List Int} {j : Nat} {x : Int} (hj : j < u.length) (hl : Limbs (u.take j)) (hx : 0 ≤ x ∧ x < 1000000000) : Limbs ((u.set j x).take (j + 1)) := by
  have e : (u.set j x).take (j + 1) = u.take j ++ [x] := by
    rw [List.take_add_one, List.getElem?_set_self hj, List.take_set_of_le (Nat.le_refl _)]; rfl
  rw [e]
  exact hl.snoc hx
/-- the sign of a number of which only the top place may be negative -/
theorem top_sign {X M y : Int} (h0 : 0 ≤ X) (h1 : X < M) : (X + M * y < 0 ↔ y < 0) := by
  constructor
  · intro h
    by_cases hy : y < 0
    · exact hy
    · have := Int.mul_nonneg (show 0 ≤ M by omega) (show 0 ≤ y by omega)
      omega
  · intro hy
    have := Int.mul_le_mul_of_nonneg_left (show y ≤ -1 by omega) (show 0 ≤ M by omega)
    omega
theorem val_top {u : List Int} {m : Nat} (h : u.length = m + 1) : val u = val (u.take m) + 1000000000 ^ m * u.getD m 0 := by
  have := val_take_succ u m
  rwa [List.take_of_length_le (by omega)] at this
theorem mul_same {a x y : Int} (h : x = y) : a * x = a * y := by rw [h]
theorem subt_step {u vs : List Int} {j : Nat} {x borrow y b' V : Int} (hj : j < u.length) (hv : val u = V - x * val (vs.take j) + 1000000000 ^ j * borrow)
    (hy : y = u.getD j 0 - vs.getD j 0 * x - borrow + 1000000000 * b') : val (u.set j y) = V - x * val (vs.take (j + 1)) + 1000000000 ^ (j + 1) * b' := by
  rw [val_set u _ hj, val_take_succ, Int.pow_succ, Int.mul_assoc]
  have e : (1000000000 : Int) ^ j * (y - u.getD j 0) = 1000000000 ^ j * (1000000000 * b') - 1000000000 ^ j * borrow - x * (1000000000 ^ j * vs.getD j 0) := by
    have : x * (1000000000 ^ j * vs.getD j 0) = (1000000000 : Int) ^ j * (vs.getD j 0 * x) := by
      rw [Int.mul_comm, Int.mul_assoc]
    rw [this, ← Int.mul_sub, ← Int.mul_sub]; exact mul_same (by omega)
  rw [Int.mul_add]
  omega
theorem impl_subTimes_c {w : World} {b off m c d : Nat} {q : Option Addr} {xs zs : List Value} {u vs : List Int} {x : Int} (h : Blk w b T_int (xs ++ u.map (Value.int .i64) ++ zs)) (hA : xs.length = off) (hu : u.length = m + 1)
    (k : IntsR w q m d vs) (hq : ∀ z, q.map (·.block) = some z → z ≠ b) (hlu : Limbs u) (hlv : Limbs vs) (hx : 0 ≤ x ∧ x < 1000000000) (hm : m ≤ 10000000) :
    Ret P n_impl_subTimes [.slice (some ⟨b, off, none⟩) (m + 1) c, .slice q m d, .int .i64 x] w fun v w' => ∃ u' : List Int, v = .bool (decide (val u' < 0)) ∧ u'.length = m + 1 ∧ Blk w' b T_int (xs ++ u'.map (Value.int .i64) ++ zs) ∧ Chg [b] w w' ∧ w'.heap.size = w.heap.size ∧ Limbs (u'.take m) ∧ val u' = val u - x * val vs := by
  refine impl_subTimes_ret ?_
  unfold impl_subTimes
  have hlv1 := k.1
  refine ⟨fun borrow t wr => ∃ (j : Nat) (o : List Int), t = j ∧ j ≤ m ∧ o.length = m + 1 ∧ Blk wr b T_int (xs ++ o.map (Value.int .i64) ++ zs) ∧ Chg [b] w wr ∧ wr.heap.size = w.heap.size ∧ Limbs (o.take j) ∧ (∀ i, j ≤ i → o.getD i 0 = u.getD i 0) ∧ 0 ≤ borrow ∧ borrow < 1000000000 ∧ val o = val u - x * val (vs.take j) + 1000000000 ^ j * borrow, fun _ t _ => m - t.toNat,
    ⟨0, u, rfl, by omega, hu, h, Chg.refl _ _, rfl, by simp [Limbs], fun _ _ => rfl, by omega, by omega, by simp [val]⟩, ?_⟩
  intro junk wr borrow t ⟨j, o, ht, hjm, ho, hb, hch, hsz, hlo, hsame, hb0, hb1, hval⟩
  subst ht
  have kr := k.chg hch (fun z hz hm => hq z hz (by simpa using hm))
  refine ifD (fun hlt => ?_) (fun hge => ?_)
  · have U := hlu.getD j; have V := hlv.getD j
    have M := mul_limb V hx
    rw [← hsame j (Nat.le_refl _)] at U
    obtain ⟨ad, rfl, hl⟩ := ints_at kr (i := (j : Int)) (by omega) hlt
    simp only [Int.toNat_natCast] at hl
    refine ⟨⟨by omega, by omega⟩, _, by simpa only [Int.toNat_natCast] using hl, ⟨by omega, by omega⟩, _, by simpa only [Int.toNat_natCast] using mid_get hb hA (show j < o.length by omega), exW ⟨by omega, by omega⟩ (exW ⟨by omega, by omega⟩ (exW ⟨by omega, by omega⟩ ?_))⟩
    have fin : ∀ y b' : Int, 0 ≤ y → y < 1000000000 → 0 ≤ b' → b' < 1000000000 → y = o.getD j 0 - vs.getD j 0 * x - borrow + 1000000000 * b' →
        ∃ w', Stores P T_int ((⟨b, off, none⟩ : Addr).add (j * 1)) (.int .i64 y) wr w' ∧ ∃ (i : Nat) (o : List Int), ((j : Int) + 1) = i ∧ i ≤ m ∧ o.length = m + 1 ∧ Blk w' b T_int (xs ++ o.map (Value.int .i64) ++ zs) ∧ Chg [b] w w' ∧ w'.heap.size = w.heap.size ∧ Limbs (o.take i) ∧ (∀ z, i ≤ z → o.getD z 0 = u.getD z 0) ∧ 0 ≤ b' ∧ b' < 1000000000 ∧ val o = val u - x * val (vs.take i) + 1000000000 ^ i * b' := fun y b' y0 y1 b0 b1 e => by
      obtain ⟨w3, st, hb3, ch3, sz3⟩ := mid_set hb hA (show j < o.length by omega) y
      exact ⟨w3, st, j + 1, _, by omega, by omega, by simpa using ho, hb3, hch.trans ch3, by omega, take_set_succ (by omega) hlo ⟨y0, y1⟩, fun z hz => by rw [getD_set_ne _ (by omega)]; exact hsame z (by omega), b0, b1, subt_step (by omega) hval e⟩
    refine ifD (fun hneg => ?_) (fun hpos => ?_)
    · refine exW ⟨by omega, by omega⟩ (exW ⟨by omega, by omega⟩ (exW ⟨by omega, by omega⟩ ⟨by decide, ?_⟩))
      rw [tdiv_limb (by omega)]
      refine exW ⟨by omega, by omega⟩ (exW ⟨by omega, by omega⟩ (exW ⟨by omega, by omega⟩ ?_))
      unfold impl_subTimes_j0
      obtain ⟨w3, st, inv⟩ := fin (o.getD j 0 - vs.getD j 0 * x - borrow + (0 - (o.getD j 0 - vs.getD j 0 * x - borrow) + 1000000000 - 1) / 1000000000 * 1000000000) ((0 - (o.getD j 0 - vs.getD j 0 * x - borrow) + 1000000000 - 1) / 1000000000) (by omega) (by omega) (by omega) (by omega) (by omega)
      refine ⟨⟨by omega, by omega⟩, w3, by simpa only [Int.toNat_natCast] using st, exW ⟨by omega, by omega⟩ ⟨inv, ?_⟩⟩
      show m - ((j : Int) + 1).toNat < m - (j : Int).toNat
      omega
    · unfold impl_subTimes_j0
      obtain ⟨w3, st, inv⟩ := fin (o.getD j 0 - vs.getD j 0 * x - borrow) 0 (by omega) (by omega) (by omega) (by omega) (by omega)
      refine ⟨⟨by omega, by omega⟩, w3, by simpa only [Int.toNat_natCast] using st, exW ⟨by omega, by omega⟩ ⟨inv, ?_⟩⟩
      show m - ((j : Int) + 1).toNat < m - (j : Int).toNat
      omega
  · have hjm' : j = m := by omega
    subst hjm'
    rw [List.take_of_length_le (show vs.length ≤ j by omega)] at hval
    have U := hlu.getD j
    rw [← hsame j (Nat.le_refl _)] at U
    refine ⟨⟨by omega, by omega⟩, _, mid_get hb hA (show j < o.length by omega), exW ⟨by omega, by omega⟩ ⟨⟨by omega, by omega⟩, ?_⟩⟩
    obtain ⟨w3, st, hb3, ch3, sz3⟩ := mid_set hb hA (show j < o.length by omega) (o.getD j 0 - borrow)
    have hl3 : (o.set j (o.getD j 0 - borrow)).length = j + 1 := by simpa using ho
    have ht3 : (o.set j (o.getD j 0 - borrow)).take j = o.take j := List.take_set_of_le (Nat.le_refl _)
    have g3 := getD_set_eq (o.getD j 0 - borrow) (show j < o.length by omega)
    have hL3 : Limbs ((o.set j (o.getD j 0 - borrow)).take j) := by rw [ht3]; exact hlo
    refine ⟨w3, st, ⟨by omega, by omega⟩, _, mid_get hb3 hA (show j < _ by omega), _, ?_, hl3, hb3, hch.trans ch3, by omega, hL3, ?_⟩
    · have hn := val_nonneg hL3; have hlt3 := val_lt hL3
      have hlen : ((o.set j (o.getD j 0 - borrow)).take j).length = j := by rw [List.length_take]; omega
      rw [hlen] at hlt3
      have := top_sign (y := (o.set j (o.getD j 0 - borrow)).getD j 0) hn hlt3
      rw [val_top hl3]
      simp only [this]
    · rw [val_set _ _ (by omega)]
      have : (1000000000 : Int) ^ j * (o.getD j 0 - borrow - o.getD j 0) = - (1000000000 ^ j * borrow) := by
        rw [← Int.mul_neg]; exact mul_same (by omega)
      omega
theorem impl_addBack_c {w : World} {b off m c d : Nat} {q : Option Addr} {xs zs : List Value} {u vs : List Int} (h : Blk w b T_int (xs ++ u.map (Value.int .i64) ++ zs)) (hA : xs.length = off) (hu : u.length = m + 1)
    (k : IntsR w q m d vs) (hq : ∀ z, q.map (·.block) = some z → z ≠ b) (hlu : Limbs (u.take m)) (hlv : Limbs vs) (ht : -1000000000 ≤ u.getD m 0 ∧ u.getD m 0 ≤ 1000000000) (hm : m ≤ 10000000) :
    Ret P n_impl_addBack [.slice (some ⟨b, off, none⟩) (m + 1) c, .slice q m d] w fun v w' => ∃ u' : List Int, v = .tuple #[] ∧ u'.length = m + 1 ∧ Blk w' b T_int (xs ++ u'.map (Value.int .i64) ++ zs) ∧ Chg [b] w w' ∧ w'.heap.size = w.heap.size ∧ Limbs (u'.take m) ∧ val u' = val u + val vs := by
  refine impl_addBack_ret ?_
  unfold impl_addBack
  have hlv1 := k.1
  refine ⟨fun carry t wr => ∃ (j : Nat) (o : List Int), t = j ∧ j ≤ m ∧ o.length = m + 1 ∧ Blk wr b T_int (xs ++ o.map (Value.int .i64) ++ zs) ∧ Chg [b] w wr ∧ wr.heap.size = w.heap.size ∧ Limbs (o.take j) ∧ (∀ i, j ≤ i → o.getD i 0 = u.getD i 0) ∧ 0 ≤ carry ∧ carry ≤ 1 ∧ val o + 1000000000 ^ j * carry = val u + val (vs.take j), fun _ t _ => m - t.toNat,
    ⟨0, u, rfl, by omega, hu, h, Chg.refl _ _, rfl, by simp [Limbs], fun _ _ => rfl, by omega, by omega, by simp [val]⟩, ?_⟩
  intro junk wr carry t ⟨j, o, htj, hjm, ho, hb, hch, hsz, hlo, hsame, hb0, hb1, hval⟩
  subst htj
  have kr := k.chg hch (fun z hz hm => hq z hz (by simpa using hm))
  refine ifD (fun hlt => ?_) (fun hge => ?_)
  · have V := hlv.getD j
    have U : 0 ≤ o.getD j 0 ∧ o.getD j 0 < 1000000000 := by
      rw [hsame j (Nat.le_refl _)]
      have := hlu.getD j
      rwa [List.getD_eq_getElem?_getD, List.getElem?_take_of_lt (by omega), ← List.getD_eq_getElem?_getD] at this
    obtain ⟨ad, rfl, hl⟩ := ints_at kr (i := (j : Int)) (by omega) hlt
    simp only [Int.toNat_natCast] at hl
    refine ⟨⟨by omega, by omega⟩, _, by simpa only [Int.toNat_natCast] using hl, ⟨by omega, by omega⟩, _, by simpa only [Int.toNat_natCast] using mid_get hb hA (show j < o.length by omega), exW ⟨by omega, by omega⟩ (exW ⟨by omega, by omega⟩ ⟨by decide, _, rfl, ⟨by omega, by omega⟩, ?_⟩)⟩
    rw [tmod_limb (by omega)]
    obtain ⟨w3, st, hb3, ch3, sz3⟩ := mid_set hb hA (show j < o.length by omega) ((carry + (o.getD j 0 + vs.getD j 0)) % 1000000000)
    refine ⟨w3, by simpa only [Int.toNat_natCast] using st, by decide, ?_⟩
    rw [tdiv_limb (by omega)]
    refine exW ⟨by omega, by omega⟩ (exW ⟨by omega, by omega⟩ ⟨⟨j + 1, _, by omega, by omega, by simpa using ho, hb3, hch.trans ch3, by omega, take_set_succ (by omega) hlo (limb_mod _), fun z hz => by rw [getD_set_ne _ (by omega)]; exact hsame z (by omega), by omega, by omega, ?_⟩, ?_⟩)
    · rw [val_set o _ (by omega), val_take_succ, Int.pow_succ, Int.mul_assoc]
      have e : (1000000000 : Int) ^ j * ((carry + (o.getD j 0 + vs.getD j 0)) % 1000000000 - o.getD j 0) + 1000000000 ^ j * (1000000000 * ((carry + (o.getD j 0 + vs.getD j 0)) / 1000000000)) = 1000000000 ^ j * carry + 1000000000 ^ j * vs.getD j 0 := by
        rw [← Int.mul_add, ← Int.mul_add]; exact mul_same (by omega)
      omega
    · show m - ((j : Int) + 1).toNat < m - (j : Int).toNat
      omega
  · have hjm' : j = m := by omega
    subst hjm'
    rw [List.take_of_length_le (show vs.length ≤ j by omega)] at hval
    have hs := hsame j (Nat.le_refl _)
    rw [← hs] at ht
    refine ⟨⟨by omega, by omega⟩, _, mid_get hb hA (show j < o.length by omega), exW ⟨by omega, by omega⟩ ⟨⟨by omega, by omega⟩, ?_⟩⟩
    obtain ⟨w3, st, hb3, ch3, sz3⟩ := mid_set hb hA (show j < o.length by omega) (o.getD j 0 + carry)
    have ht3 : (o.set j (o.getD j 0 + carry)).take j = o.take j := List.take_set_of_le (Nat.le_refl _)
    refine ⟨w3, st, _, rfl, by simpa using ho, hb3, hch.trans ch3, by omega, by rw [ht3]; exact hlo, ?_⟩
    rw [val_set _ _ (by omega)]
    have : (1000000000 : Int) ^ j * (o.getD j 0 + carry - o.getD j 0) = 1000000000 ^ j * carry := mul_same (by omega)
    omega
theorem impl_natSmall_c {w : World} {p : Option Addr} {n c : Nat} {a : List Int} {d : Int} (h : IntsR w p n c a) (ha : Limbs a) (hd : 0 < d ∧ d < 1000000000) (hn : n ≤ 10000000) :
    Ret P n_impl_natSmall [.slice p n c, .int .i64 d] w fun v w' => ∃ p' n' c', v = .tuple #[.slice p' n' c', .int .i64 (val a % d)] ∧ Own w' w.heap.size T_int 1 p' n' c' ((digs (val a / d).toNat).map (Value.int .i64)) ∧ Ext w w' := by
  refine impl_natSmall_ret ?_
  unfold impl_natSmall
  have hla := h.1
  refine ⟨⟨by omega, by omega, by omega⟩, fun r w1 hn1 => exW ⟨by omega, by omega⟩ ?_⟩
  have hre := hn1.r_eq
  have hb1 := hn1.blk
  rw [zeroRow_int, Nat.mul_one] at hb1
  refine ⟨fun rest i wr => ∃ (s : Nat) (o : List Int), i = (s : Int) - 1 ∧ s ≤ n ∧ o.length = n ∧ Blk wr r T_int (o.map (Value.int .i64)) ∧ Ext w wr ∧ Limbs o ∧ 0 ≤ rest ∧ rest < d ∧ val (a.drop s) = d * val (o.drop s) + rest, fun _ i _ => (i + 1).toNat,
    ⟨n, List.replicate n 0, rfl, by omega, by simp, by simpa using hb1, hn1.ext, fun x hx => by simp at hx; omega, by omega, by omega, by rw [List.drop_of_length_le (by omega), List.drop_of_length_le (by simp)]; simp [val]⟩, ?_⟩
  intro junk wr rest i ⟨s, o, hi, hsn, hol, hblk, hx, hlo, hr0, hr1, hv⟩
  subst hi
  refine ifD (fun hlt => ?_) (fun hge => ?_)
  · obtain ⟨t, rfl⟩ : ∃ t, s = t + 1 := ⟨s - 1, by omega⟩
    have A := ha.getD t
    have e1 : (((t + 1 : Nat) : Int) - 1).toNat = t := by omega
    obtain ⟨ad, rfl, hl⟩ := ints_at (h.ext hx) (i := ((t + 1 : Nat) : Int) - 1) (by omega) (by omega)
    rw [e1] at hl ⊢
    have T1 : rest * 1000000000 + a.getD t 0 < 1000000000 * d := by
      have : rest * 1000000000 ≤ (d - 1) * 1000000000 := Int.mul_le_mul_of_nonneg_right (by omega) (by omega)
      omega
    have T0 : 0 ≤ rest * 1000000000 + a.getD t 0 := by omega
    have Y0 : 0 ≤ (rest * 1000000000 + a.getD t 0) / d := Int.ediv_nonneg T0 (by omega)
    have Y1 : (rest * 1000000000 + a.getD t 0) / d < 1000000000 := Int.ediv_lt_of_lt_mul (by omega) T1
    have Z0 := Int.emod_nonneg (rest * 1000000000 + a.getD t 0) (show d ≠ 0 by omega)
    have Z1 := Int.emod_lt_of_pos (rest * 1000000000 + a.getD t 0) hd.1
    have Q := Int.mul_ediv_add_emod (rest * 1000000000 + a.getD t 0) d
    refine exW ⟨by omega, by omega⟩ ⟨⟨by omega, by omega⟩, _, hl, exW ⟨by omega, by omega⟩ ⟨by omega, ?_⟩⟩
    rw [Int.tdiv_eq_ediv_of_nonneg T0, Int.tmod_eq_emod_of_nonneg T0]
    obtain ⟨w3, st, hb3, ch3, sz3⟩ := blk_set hblk (i := (t : Int)) (by omega) (by omega) ((rest * 1000000000 + a.getD t 0) / d)
    simp only [Int.toNat_natCast] at st hb3
    refine exW ⟨by omega, by omega⟩ ⟨⟨by omega, by omega⟩, w3, st, by omega, _, rfl, exW ⟨by omega, by omega⟩ ⟨⟨t, _, by omega, by omega, by simpa using hol, hb3, hx.chg ch3 (by simp; omega), hlo.set ⟨Y0, Y1⟩, Z0, Z1, ?_⟩, ?_⟩⟩
    · have ea : a.drop t = a.getD t 0 :: a.drop (t + 1) := by
        rw [List.drop_eq_getElem_cons (by omega), List.getD_eq_getElem?_getD, List.getElem?_eq_getElem (by omega)]; rfl
      have eo : (o.set t ((rest * 1000000000 + a.getD t 0) / d)).drop t = (rest * 1000000000 + a.getD t 0) / d :: o.drop (t + 1) := by
        rw [List.drop_eq_getElem_cons (by simp; omega), List.getElem_set_self, List.drop_set_of_lt (by omega)]
      rw [ea, eo, val, val, hv, Int.mul_add d]
      have : d * (1000000000 * val (o.drop (t + 1))) = 1000000000 * (d * val (o.drop (t + 1))) := by rw [Int.mul_left_comm]
      omega
    · show (((t + 1 : Nat) : Int) - 1 - 1 + 1).toNat < (((t + 1 : Nat) : Int) - 1 + 1).toNat
      omega
  · have hs0 : s = 0 := by omega
    subst hs0
    simp only [List.drop_zero] at hv
    have hown : Own wr w.heap.size T_int 1 (some ⟨r, 0, none⟩) n n (o.map (Value.int .i64)) := Own.of_blk hblk (by omega) (by simp [hol]) (by simp only [maxLen]; omega)
    refine Ret.at (impl_trim_c hown.ints) ?_
    rintro v w4 ⟨hv4, hw4, hr4⟩
    subst hv4; subst hw4
    have e1 : val a / d = val o := by rw [hv, Int.mul_comm, Int.add_comm, Int.add_mul_ediv_right _ _ (by omega), Int.ediv_eq_zero_of_lt hr0 hr1, Int.zero_add]
    have e2 : val a % d = rest := by rw [hv, Int.mul_comm, Int.add_comm, Int.add_mul_emod_self_right, Int.emod_eq_of_lt hr0 hr1]
    refine ⟨_, _, _, rfl, _, _, _, by rw [e2], ?_, hx⟩
    rw [e1, ← trimL_eq hlo]
    have hle := trimL_len o
    have := hown.sub (m := (trimL o).length) (by omega)
    rwa [← trimL_prefix] at this
end Go.Proofs.YtpaekkcgphljoaaGreatDoor

namespace Go.Proofs.YtpaekkcgphljoaaGreatDoor.Sx
open Go Go.RowKit
set_option linter.unusedVariables false
set_option linter.unusedSimpArgs false
/-- append of one row onto a row of one's own: where it lies then -/
theorem Own.push1 {P : Program} {w : World} {B : Nat} {t e : TypeId} {z : Value} {size bytes : Nat} {p : Option Addr} {n c r : Nat} {xs news : List Value} (h : Own w B e size p n c xs)
    (hT : sliceT P t e z size bytes) (hb : B ≤ w.heap.size) (hr : Blk w r e news) (hl : news.length = size) (h1 : ∀ u ∈ news, u.oneCell' = true)
    (hbytes : (n + 1) * bytes ≤ 140737488355328) (hby : 1 ≤ bytes) :
    ∃ p' c' w', Appends P [t, t] [.slice p n c, .slice (some ⟨r, 0, none⟩) 1 1] (.slice p' (n + 1) c') w w' ∧ Own w' B e size p' (n + 1) c' (xs ++ news) ∧ Chg (p.map (·.block)).toList w w' ∧
      (p'.map (·.block) = p.map (·.block) ∨ ∀ q, p'.map (·.block) = some q → w.heap.size ≤ q) := by
  obtain ⟨hu, hi, hz, hs⟩ := hT
  cases hinf : P.info? e with
  | none => rw [hinf] at hi; cases hi
  | some i =>
    rw [hinf] at hi
    simp only [Option.map_some, Option.some.injEq, Prod.mk.injEq] at hi
    have hnm : n + 1 ≤ maxLen := by
      have : n + 1 ≤ (n + 1) * bytes := Nat.le_mul_of_pos_right _ hby
      simp only [maxLen]; omega
    have hcells : ∀ j u, news[j]? = some u → w.cell? ((⟨r, 0, none⟩ : Addr).add j) = some u := fun j u hj => by rw [addr_add, Nat.zero_add, hr.cell, hj]
    obtain ⟨v', w', hrun, hown, hgr, _⟩ := run_append_own (P := P) w B t 0 e i z size bytes hu hinf hi.1 hi.2.1 hi.2.2 hz hs (.slice p n c) n xs h ⟨r, 0, none⟩ 1 1 news (by rw [hl, Nat.one_mul]) hcells h1 hnm hbytes hb
    have hv : ∃ p' c', v' = .slice p' (n + 1) c' := by
      rcases hown.2 with ⟨e1, e2⟩ | ⟨g, cap, cur, e1, _⟩
      · omega
      · exact ⟨_, _, e1⟩
    obtain ⟨p', c', rfl⟩ := hv
    have hob : (Value.slice p n c).ownBlock = p.map (·.block) := by cases p <;> rfl
    refine ⟨p', c', w', hrun, hown, ⟨hgr.os, hgr.tape, hgr.output, hgr.size, fun k hk hn => hgr.block k hk ?_⟩, ?_⟩
    · rw [hob]; intro e; rw [← e] at hn; simp at hn
    have hrun : (Builtin.append_ #[t, t] 0 #[.slice p n c, .slice (some ⟨r, 0, none⟩) 1 1]).run P w = .ok (.slice p' (n + 1) c') w' := hrun
    rcases h.2 with ⟨e1, e2⟩ | ⟨g, cap, cur, e1, hB, hg, h3, h4, h5, h6⟩
    · simp only [Value.slice.injEq] at e1
      obtain ⟨rfl, rfl, rfl⟩ := e1
      have h0 := run_append_nil (P := P) w t 0 e i z hu hinf hi.1 ⟨r, 0, none⟩ 1 1 news (by rw [hl, hi.2.1, Nat.one_mul]) hcells (by omega) (by omega) (by rw [hi.2.2]; omega)
      rw [h0] at hrun
      injection hrun with hv _
      simp only [Value.slice.injEq] at hv
      exact .inr fun q hq => by rw [← hv.1] at hq; simp at hq; omega
    · simp only [Value.slice.injEq] at e1
      obtain ⟨rfl, _, rfl⟩ := e1
      by_cases hroom : n + 1 ≤ c
      · have hsz : n * i.size + news.length ≤ cur.size := by
          have : (n + 1) * size ≤ c * size := Nat.mul_le_mul_right _ hroom
          rw [hi.2.1, hl, h5, Nat.succ_mul] at *
          omega
        have h0 := run_append_room (P := P) w t 0 e i hu hinf g n c cur hg ⟨r, 0, none⟩ 1 1 news (by rw [hl, hi.2.1, Nat.one_mul]) hcells h1 hroom hsz
        rw [h0] at hrun
        injection hrun with hv _
        simp only [Value.slice.injEq] at hv
        exact .inl (by rw [← hv.1])
      · have holds : ∀ j v, xs[j]? = some v → w.cell? ((⟨g, 0, none⟩ : Addr).add j) = some v := World.ownsRow.cells h rfl
        have hfit : Builtin.nextslicecap (n + 1) c * i.bytes ≤ 281474976710656 := by
          rw [hi.2.2]; exact growslice_fits (by omega) hbytes
        have h0 := run_append_grow (P := P) w t 0 e i z hu hinf hi.1 ⟨g, 0, none⟩ n c xs (by rw [h.len, hi.2.1]) holds ⟨r, 0, none⟩ 1 1 news (by rw [hl, hi.2.1, Nat.one_mul]) hcells (by omega) (by simp only [maxLen] at hnm; omega) hfit
        rw [h0] at hrun
        injection hrun with hv _
        simp only [Value.slice.injEq] at hv
        exact .inr fun q hq => by rw [← hv.1] at hq; simp at hq; omega
theorem OwnRows.fresh {w w' : World} {B : Nat} {e : TypeId} {k r : Nat} (hn : New w (.cells ⟨[]⟩ e (0, 0)) r w') (hb : B ≤ w.heap.size) : OwnRows w' B e k (some ⟨r, 0, none⟩) 0 0 [] [r] :=
  ⟨rfl, [], [], trivial, Own.of_blk0 hn.blk (by have := hn.r_eq; omega) (by simp) (by decide), by simp, by simp⟩
/-- a row with what it holds, all new, pushed -/
theorem OwnRows.push {P : Program} {w : World} {B : Nat} {t e : TypeId} {z : Value} {k bytes : Nat} {p : Option Addr} {n c r : Nat} {l : List (List D0)} {f fx : List Nat} {cs : List Value} {x : List D0} (h : OwnRows w B e k p n c l f)
    (hT : sliceT P t e z k bytes) (hb : B ≤ w.heap.size) (hr : Blk w r e cs) (hl : cs.length = k) (ho : Owns w B cs x fx) (hfx : fx.Nodup) (hdis : ∀ q ∈ fx, q ∉ f)
    (hbytes : (n + 1) * bytes ≤ 140737488355328) (hby : 1 ≤ bytes) :
    ∃ p' c' w' f', Appends P [t, t] [.slice p n c, .slice (some ⟨r, 0, none⟩) 1 1] (.slice p' (n + 1) c') w w' ∧ OwnRows w' B e k p' (n + 1) c' (l ++ [x]) f' ∧ Chg (p.map (·.block)).toList w w' ∧
      (∀ w0, Ext w0 w → w0.heap.size ≤ B → Ext w0 w') := by
  obtain ⟨hln, css, fs, ha, hown, rfl, hnd⟩ := h
  obtain ⟨p', c', w', hrun, hown', hch, hp⟩ := hown.push1 hT hb hr hl ho.reps.cells1 hbytes hby
  have hpl : ∀ q ∈ (p.map (·.block)).toList, B ≤ q := fun q hq => (World.ownsRow.lt hown q (by cases p <;> simp_all [Value.ownBlock])).1
  have hnd1 := (List.nodup_append.1 hnd)
  have hpin : ∀ q ∈ fs.flatten, q ∉ (p.map (·.block)).toList := fun q hq hm => hnd1.2.2 q hm q hq rfl
  have hpx : ∀ q ∈ fx, q ∉ (p.map (·.block)).toList := fun q hq hm => hdis q hq (List.mem_append_left _ hm)
  have hlt : ∀ q ∈ fs.flatten ++ fx, q < w.heap.size := fun q hq => by
    rcases List.mem_append.1 hq with hq | hq
    · exact (ha.lt q hq).2
    · exact (ho.lt q hq).2
  refine ⟨p', c', w', (p'.map (·.block)).toList ++ (fs ++ [fx]).flatten, hrun, ⟨by simp [hln], css ++ [cs], fs ++ [fx], (ha.chg hch hpin).snoc hl (ho.chg hch hpx), by simpa using hown', rfl, ?_⟩, hch, fun w0 hx hb0 => hx.chg hch fun q hq => Nat.le_trans hb0 (hpl q hq)⟩
  have e : (fs ++ [fx]).flatten = fs.flatten ++ fx := by simp
  rw [e, List.nodup_append]
  refine ⟨by cases p' <;> simp, ?_, ?_⟩
  · rw [List.nodup_append]
    exact ⟨hnd1.2.1, hfx, fun a ha b hb e => hdis b hb (by rw [← e]; exact List.mem_append_right _ ha)⟩
  · intro a ha b hb hab
    subst hab
    have hpa := opt_mem ha
    rcases hp with hp | hp
    · rw [hp] at hpa
      have ham : a ∈ (p.map (·.block)).toList := mem_opt hpa
      rcases List.mem_append.1 hb with hb | hb
      · exact hpin a hb ham
      · exact hpx a hb ham
    · have := hp a hpa
      have := hlt a hb
      omega
end Go.Proofs.YtpaekkcgphljoaaGreatDoor.Sx

namespace Go.Proofs.YtpaekkcgphljoaaGreatDoor
open Go Go.Proofs.YtpaekkcgphljoaaGreatDoor.Sx
set_option linter.unusedVariables false
set_option linter.unusedSimpArgs false
theorem pow_pos9 (k : Nat) : (0 : Int) < 1000000000 ^ k := Int.pow_pos (by decide)
/-- the two top places -/
theorem val_top2 {v : List Int} {m : Nat} (h : v.length = m + 2) : val v = val (v.take m) + 1000000000 ^ m * (1000000000 * v.getD (m + 1) 0 + v.getD m 0) := by
  rw [val_top (m := m + 1) h, val_take_succ, Int.pow_succ, Int.mul_add, Int.mul_assoc]
  omega
theorem val_top3 {u : List Int} {m : Nat} (h : u.length = m + 3) : val u = val (u.take m) + 1000000000 ^ m * ((u.getD (m + 2) 0 * 1000000000 + u.getD (m + 1) 0) * 1000000000 + u.getD m 0) := by
  have e2 : (1000000000 : Int) ^ (m + 2) = 1000000000 ^ m * 1000000000 * 1000000000 := by rw [show m + 2 = (m + 1) + 1 from rfl, Int.pow_succ, Int.pow_succ]
  have e1 : (1000000000 : Int) ^ (m + 1) = 1000000000 ^ m * 1000000000 := Int.pow_succ _ _
  rw [val_top (m := m + 2) h, val_take_succ, val_take_succ, e2, e1]
  have : (1000000000 : Int) ^ m * ((u.getD (m + 2) 0 * 1000000000 + u.getD (m + 1) 0) * 1000000000 + u.getD m 0) = 1000000000 ^ m * u.getD m 0 + 1000000000 ^ m * 1000000000 * u.getD (m + 1) 0 + 1000000000 ^ m * 1000000000 * 1000000000 * u.getD (m + 2) 0 := by
    rw [Int.mul_assoc (1000000000 ^ m * 1000000000), Int.mul_assoc (1000000000 ^ m), Int.mul_assoc (1000000000 ^ m), ← Int.mul_add, ← Int.mul_add]
    exact mul_same (by omega)
  omega
theorem take_bounds {u : List Int} {m : Nat} (h : Limbs u) (hm : m ≤ u.length) : 0 ≤ val (u.take m) ∧ val (u.take m) < 1000000000 ^ m := by
  have h1 := val_nonneg (h.take m); have h2 := val_lt (h.take m)
  have : (u.take m).length = m := by rw [List.length_take]; omega
  rw [this] at h2
  exact ⟨h1, h2⟩
/-- a first guess is not too small -/
theorem guess0 {M ul vl T top u2 v1 v2 q D V : Int} (hM : 0 < M) (hul : ul < M) (hvl : 0 ≤ vl) (hD : D = ul + M * T) (hV : V = vl + M * (1000000000 * v1 + v2)) (hT : T = top * 1000000000 + u2) (hu2 : u2 < 1000000000) (hv2 : 0 ≤ v2) (hq : 0 ≤ q) (h : top < (q + 1) * v1) : D < (q + 1) * V := by
  have h1 : (q + 1) * (1000000000 * v1) = 1000000000 * ((q + 1) * v1) := Int.mul_left_comm _ _ _
  have h2 : 0 ≤ (q + 1) * v2 := Int.mul_nonneg (by omega) hv2
  have h3 : T + 1 ≤ (q + 1) * (1000000000 * v1 + v2) := by rw [Int.mul_add]; omega
  have h4 : M * (T + 1) ≤ M * ((q + 1) * (1000000000 * v1 + v2)) := Int.mul_le_mul_of_nonneg_left h3 (by omega)
  have h5 : 0 ≤ (q + 1) * vl := Int.mul_nonneg (by omega) hvl
  rw [hV, Int.mul_add, Int.mul_left_comm (q + 1) M]
  rw [Int.mul_add] at h4
  omega
/-- a guess that is too great is not needed -/
theorem guess1 {M ul vl T v12 q D V : Int} (hM : 0 < M) (hul : ul < M) (hvl : 0 ≤ vl) (hD : D = ul + M * T) (hV : V = vl + M * v12) (hq : 0 ≤ q) (h : T < q * v12) : D < q * V := by
  have h4 : M * (T + 1) ≤ M * (q * v12) := Int.mul_le_mul_of_nonneg_left (by omega) (by omega)
  have h5 : 0 ≤ q * vl := Int.mul_nonneg hq hvl
  rw [hV, Int.mul_add, Int.mul_left_comm q M]
  rw [Int.mul_add] at h4
  omega
/-- a guess that holds at the top is too great by one at most -/
theorem guess2 {M ul vl T v1 v2 q D V : Int} (hM : 0 < M) (hul : 0 ≤ ul) (hvl : 0 ≤ vl ∧ vl < M) (hD : D = ul + M * T) (hV : V = vl + M * (1000000000 * v1 + v2)) (hv1 : 1 ≤ v1) (hv2 : 0 ≤ v2) (hq : 0 ≤ q ∧ q < 1000000000) (h : q * (1000000000 * v1 + v2) ≤ T) : q * V ≤ D + V := by
  have h1 : q * vl ≤ q * M := Int.mul_le_mul_of_nonneg_left (by omega) hq.1
  have h2 : M * (q * (1000000000 * v1 + v2)) ≤ M * T := Int.mul_le_mul_of_nonneg_left h (by omega)
  have h3 : M * q ≤ M * (1000000000 * v1 + v2) := Int.mul_le_mul_of_nonneg_left (by omega) (by omega)
  rw [Int.mul_comm q M] at h1
  have e : q * V = q * vl + M * (q * (1000000000 * v1 + v2)) := by rw [hV, Int.mul_add, Int.mul_left_comm q M]
  omega
theorem impl_divStep_c {w : World} {b off m c d : Nat} {q : Option Addr} {xs zs : List Value} {u vs : List Int} (h : Blk w b T_int (xs ++ u.map (Value.int .i64) ++ zs)) (hA : xs.length = off) (hu : u.length = m + 1)
    (k : IntsR w q m d vs) (hq : ∀ z, q.map (·.block) = some z → z ≠ b) (hlu : Limbs u) (hlv : Limbs vs) (htop : 1 ≤ vs.getD (m - 1) 0) (hm2 : 2 ≤ m) (hm : m ≤ 10000000) (hD : val u < 1000000000 * val vs) :
    Ret P n_impl_divStep [.slice (some ⟨b, off, none⟩) (m + 1) c, .slice q m d] w fun v w' => ∃ (x : Int) (u' : List Int), v = .int .i64 x ∧ 0 ≤ x ∧ x < 1000000000 ∧ u'.length = m + 1 ∧ Blk w' b T_int (xs ++ u'.map (Value.int .i64) ++ zs) ∧ Chg [b] w w' ∧ Limbs u' ∧ val u' = val u - x * val vs ∧ 0 ≤ val u' ∧ val u' < val vs := by
  refine impl_divStep_ret ?_
  unfold impl_divStep
  have hvl := k.1
  obtain ⟨t, rfl⟩ : ∃ t, m = t + 2 := ⟨m - 2, by omega⟩
  have e1 : t + 2 - 1 = t + 1 := by omega
  rw [e1] at htop
  have U2 := hlu.getD (t + 2); have U1 := hlu.getD (t + 1); have U0 := hlu.getD t
  have V1 := hlv.getD (t + 1); have V0 := hlv.getD t
  have eu := val_top3 hu
  have ev := val_top2 hvl
  have bu := take_bounds (m := t) hlu (by omega); have bv := take_bounds (m := t) hlv (by omega)
  have hM := pow_pos9 t
  have hX := Ext.drew w
  have hbd := h.ext hX
  have kd := k.ext hX
  have i1 : ((t + 2 : Nat) : Int) - 1 = ((t + 1 : Nat) : Int) := by omega
  have i2 : ((t + 2 : Nat) : Int) - 2 = ((t : Nat) : Int) := by omega
  have lu : ∀ {W : World} {i : Nat}, Ext w W → i < t + 3 → Loads P T_int ((⟨b, off, none⟩ : Addr).add (i * 1)) (.int .i64 (u.getD i 0)) W := fun hW hi => mid_get (h.ext hW) hA (by omega)
  have lv : ∃ av, q = some av ∧ ∀ {W : World} {i : Nat}, Ext w W → i < t + 2 → Loads P T_int (av.add (i * 1)) (.int .i64 (vs.getD i 0)) W := by
    obtain ⟨bq, oq, hqe, _⟩ := k.2.2.2 (by omega)
    refine ⟨⟨bq, oq, none⟩, hqe, fun {W i} hW hi => ?_⟩
    obtain ⟨ad, hqa, hl⟩ := ints_at (k.ext hW) (i := (i : Int)) (by omega) (by omega)
    rw [hqe] at hqa
    obtain rfl := Option.some.inj hqa
    simpa only [Int.toNat_natCast] using hl
  obtain ⟨av, rfl, lv⟩ := lv
  have T1 : u.getD (t + 2) 0 * 1000000000 + u.getD (t + 1) 0 < 1000000000000000000 := by omega
  have T0 : 0 ≤ u.getD (t + 2) 0 * 1000000000 + u.getD (t + 1) 0 := by omega
  generalize htp : u.getD (t + 2) 0 * 1000000000 + u.getD (t + 1) 0 = top at eu T1 T0
  have Q0 : 0 ≤ top / vs.getD (t + 1) 0 := Int.ediv_nonneg T0 (by omega)
  have Q1 : top / vs.getD (t + 1) 0 ≤ top := Int.ediv_le_self _ T0
  have Qm := Int.mul_ediv_add_emod top (vs.getD (t + 1) 0)
  have Qr := Int.emod_lt_of_pos top (show 0 < vs.getD (t + 1) 0 by omega)
  have Qr0 := Int.emod_nonneg top (show vs.getD (t + 1) 0 ≠ 0 by omega)
  refine ⟨⟨by omega, by omega⟩, _, fun W hW => lu (hX.trans hW) (by omega), exW ⟨by omega, by omega⟩ (exW ⟨by omega, by omega⟩ ?_)⟩
  rw [i1]
  refine ⟨⟨by omega, by omega⟩, _, fun W hW => by simpa only [Int.toNat_natCast] using lu (i := t + 1) (hX.trans hW) (by omega), ?_⟩
  rw [htp]
  refine exW ⟨by omega, by omega⟩ (exW ⟨by omega, by omega⟩ ⟨⟨by omega, by omega⟩, _, by simpa only [Int.toNat_natCast] using lv (i := t + 1) hX (by omega), by omega, ?_⟩)
  rw [Int.tdiv_eq_ediv_of_nonneg T0]
  refine exW ⟨by omega, by omega⟩ ⟨_, rfl, ?_⟩
  refine ⟨fun z wr => Ext w wr ∧ 0 ≤ z ∧ z < 1000000000 ∧ z * vs.getD (t + 1) 0 ≤ top ∧ val u < (z + 1) * val vs, fun z _ => z.toNat, ⟨hX, ?_, ?_, ?_, ?_⟩, ?_⟩
  · split <;> omega
  · split <;> omega
  · have : ∀ z, z ≤ top / vs.getD (t + 1) 0 → z * vs.getD (t + 1) 0 ≤ top := fun z hz => by
      have := Int.mul_le_mul_of_nonneg_right hz (show 0 ≤ vs.getD (t + 1) 0 by omega)
      rw [Int.mul_comm (top / _)] at this
      omega
    apply this; split <;> omega
  · split
    · show val u < (999999999 + 1) * val vs
      omega
    · refine guess0 hM bu.2 bv.1 eu ev rfl U0.2 V0.1 Q0 ?_
      rw [Int.add_mul, Int.mul_comm (top / _)]
      omega
  intro junk wr z ⟨hx, hz0, hz1, hzt, hzD⟩
  have fin : ∀ W, Ext w W → z * val vs ≤ val u + val vs → Ret P n_impl_subTimes [.slice (some ⟨b, off, none⟩) (t + 2 + 1) c, .slice (some av) (t + 2) d, .int .i64 z] W fun v w7 => ∃ bb, v = .bool bb ∧ (bb = true → ∃ t76, t76 = IntKind.wrap .i64 (z - 1) ∧ Ret P n_impl_addBack [.slice (some ⟨b, off, none⟩) (t + 2 + 1) c, .slice (some av) (t + 2) d] w7 fun v2 w8 => v2 = .tuple #[] ∧ ∃ (x : Int) (u' : List Int), Value.int .i64 t76 = .int .i64 x ∧ 0 ≤ x ∧ x < 1000000000 ∧ u'.length = t + 2 + 1 ∧ Blk w8 b T_int (xs ++ u'.map (Value.int .i64) ++ zs) ∧ Chg [b] w w8 ∧ Limbs u' ∧ val u' = val u - x * val vs ∧ 0 ≤ val u' ∧ val u' < val vs) ∧
      (bb = false → ∃ (x : Int) (u' : List Int), Value.int .i64 z = .int .i64 x ∧ 0 ≤ x ∧ x < 1000000000 ∧ u'.length = t + 2 + 1 ∧ Blk w7 b T_int (xs ++ u'.map (Value.int .i64) ++ zs) ∧ Chg [b] w w7 ∧ Limbs u' ∧ val u' = val u - x * val vs ∧ 0 ≤ val u' ∧ val u' < val vs) := by
    intro W hW hle
    refine (impl_subTimes_c (h.ext hW) hA hu (k.ext hW) hq hlu hlv ⟨hz0, hz1⟩ hm).mono ?_
    rintro v w7 ⟨u1, hv, hl1, hb1, ch1, sz1, hL1, hval1⟩
    have hvV := val_lt hlv
    rw [hvl] at hvV
    have hlen : (u1.take (t + 2)).length = t + 2 := by rw [List.length_take]; omega
    have lim : ∀ u2 : List Int, u2.length = t + 2 + 1 → Limbs (u2.take (t + 2)) → 0 ≤ val u2 → val u2 < val vs → Limbs u2 := fun u2 h1 h2 h3 h4 => by
      have a1 := val_nonneg h2; have a2 := val_lt h2
      have hl : (u2.take (t + 2)).length = t + 2 := by rw [List.length_take]; omega
      rw [hl] at a2
      have a3 := val_top h1
      have hp := pow_pos9 (t + 2)
      have b1 : ¬ u2.getD (t + 2) 0 < 0 := fun hn => by
        have := Int.mul_le_mul_of_nonneg_left (show u2.getD (t + 2) 0 ≤ -1 by omega) (Int.le_of_lt hp); omega
      have b2 : ¬ 0 < u2.getD (t + 2) 0 := fun hn => by
        have := Int.mul_le_mul_of_nonneg_left (show 1 ≤ u2.getD (t + 2) 0 by omega) (Int.le_of_lt hp); omega
      have e : u2 = u2.take (t + 2) ++ [u2.getD (t + 2) 0] := by
        conv => lhs; rw [← List.take_of_length_le (show u2.length ≤ t + 2 + 1 by omega), List.take_add_one]
        rw [List.getElem?_eq_getElem (by omega), List.getD_eq_getElem?_getD, List.getElem?_eq_getElem (by omega)]; rfl
      rw [e]
      exact h2.snoc (by omega)
    rw [Int.add_mul] at hzD
    refine ⟨_, hv, fun hneg => exW ⟨by omega, by omega⟩ ?_, fun hpos => ?_⟩
    · have hneg := of_decide_eq_true hneg
      have hz1' : 1 ≤ z := by
        rcases Int.lt_or_le z 1 with h | h
        · have : z = 0 := by omega
          subst this
          have := val_nonneg hlu
          omega
        · exact h
      have a1 := val_nonneg hL1; have a2 := val_lt hL1
      rw [hlen] at a2
      have a3 := val_top hl1
      have hp := pow_pos9 (t + 2)
      have g : -1000000000 ≤ u1.getD (t + 2) 0 ∧ u1.getD (t + 2) 0 ≤ 1000000000 := by
        constructor
        · rcases Int.lt_or_le (u1.getD (t + 2) 0) (-1000000000) with hn | hn
          · have := Int.mul_le_mul_of_nonneg_left (show u1.getD (t + 2) 0 ≤ -2 by omega) (Int.le_of_lt hp); omega
          · exact hn
        · rcases Int.lt_or_le 1000000000 (u1.getD (t + 2) 0) with hn | hn
          · have := Int.mul_le_mul_of_nonneg_left (show 0 ≤ u1.getD (t + 2) 0 by omega) (Int.le_of_lt hp); omega
          · exact hn
      refine (impl_addBack_c hb1 hA hl1 ((k.ext hW).chg ch1 (fun y hy hm => hq y hy (by simpa using hm))) hq hL1 hlv g hm).mono ?_
      rintro v w8 ⟨u2, hv2, hl2, hb2, ch2, sz2, hL2, hval2⟩
      have ev2 : val u2 = val u - (z - 1) * val vs := by rw [Int.sub_mul]; omega
      exact ⟨hv2, z - 1, u2, rfl, by omega, by omega, hl2, hb2, hW.toChg.trans (ch1.trans ch2), lim u2 hl2 hL2 (by omega) (by omega), ev2, by omega, by omega⟩
    · have hpos := of_decide_eq_false hpos
      exact ⟨z, u1, rfl, hz0, hz1, hl1, hb1, hW.toChg.trans ch1, lim u1 hl1 hL1 (by omega) (by omega), hval1, by omega, by omega⟩
  have hxd := hx.trans (Ext.drew wr)
  refine ifD (fun hpos => ?_) (fun hzero => ifF (ifF ?_))
  · have M0 := mul_limb V0 ⟨hz0, hz1⟩
    rw [Int.mul_comm] at M0
    have ZV : 0 ≤ z * vs.getD (t + 1) 0 := Int.mul_nonneg hz0 (by omega)
    refine exW ⟨by omega, by omega⟩ ?_
    rw [i2]
    refine ⟨⟨by omega, by omega⟩, _, fun W hW => by simpa only [Int.toNat_natCast] using lv (i := t + 1) (hxd.trans hW) (by omega), exW ⟨by omega, by omega⟩ (exW ⟨by omega, by omega⟩ (ifD (fun hr => ?_) (fun hr => ifF ?_)))⟩
    · refine exW ⟨by omega, by omega⟩ ⟨⟨by omega, by omega⟩, _, fun W hW => by simpa only [Int.toNat_natCast] using lv (i := t) (hxd.trans hW) (by omega), exW ⟨by omega, by omega⟩ (exW ⟨by omega, by omega⟩ ⟨⟨by omega, by omega⟩, _, fun W hW => by simpa only [Int.toNat_natCast] using lv (i := t + 1) (hxd.trans hW) (by omega), exW ⟨by omega, by omega⟩ (exW ⟨by omega, by omega⟩ (exW ⟨by omega, by omega⟩ (exW ⟨by omega, by omega⟩ ⟨⟨by omega, by omega⟩, _, fun W hW => by simpa only [Int.toNat_natCast] using lu (i := t) (hxd.trans hW) (by omega), exW ⟨by omega, by omega⟩ (ifD (fun hmore => ?_) (fun hdone => ?_))⟩)))⟩)⟩
      · refine exW ⟨by omega, by omega⟩ ⟨⟨hxd, by omega, by omega, ?_, ?_⟩, ?_⟩
        · rw [Int.sub_mul]; omega
        · have := guess1 (q := z) (T := top * 1000000000 + u.getD t 0) (v12 := 1000000000 * vs.getD (t + 1) 0 + vs.getD t 0) hM bu.2 bv.1 eu ev hz0 (by rw [Int.mul_add, Int.mul_left_comm]; omega)
          rwa [Int.sub_add_cancel]
        · show (z - 1).toNat < z.toNat
          omega
      · refine Ret.at (fin _ hxd (guess2 hM bu.1 bv eu ev (by omega) V0.1 ⟨hz0, hz1⟩ (by rw [Int.mul_add, Int.mul_left_comm]; omega))) ?_
        rintro v w7 ⟨bb, hv, h1, h2⟩
        refine ⟨bb, by rw [hv], fun hb => ?_, h2⟩
        obtain ⟨t76, ht, hr⟩ := h1 hb
        refine ⟨t76, ht, Ret.at hr ?_⟩
        rintro v2 w8 ⟨hv2, hf⟩
        exact ⟨by rw [hv2], hf⟩
    · refine Ret.at (fin _ hxd (guess2 hM bu.1 bv eu ev (by omega) V0.1 ⟨hz0, hz1⟩ (by rw [Int.mul_add, Int.mul_left_comm]; omega))) ?_
      rintro v w7 ⟨bb, hv, h1, h2⟩
      refine ⟨bb, by rw [hv], fun hb => ?_, h2⟩
      obtain ⟨t76, ht, hr⟩ := h1 hb
      refine ⟨t76, ht, Ret.at hr ?_⟩
      rintro v2 w8 ⟨hv2, hf⟩
      exact ⟨by rw [hv2], hf⟩
  · have hz : z = 0 := by omega
    subst hz
    refine Ret.at (fin _ hxd (by have := val_nonneg hlu; have := val_nonneg hlv; omega)) ?_
    rintro v w7 ⟨bb, hv, h1, h2⟩
    refine ⟨bb, by rw [hv], fun hb => ?_, h2⟩
    obtain ⟨t76, ht, hr⟩ := h1 hb
    refine ⟨t76, ht, Ret.at hr ?_⟩
    rintro v2 w8 ⟨hv2, hf⟩
    exact ⟨by rw [hv2], hf⟩
end Go.Proofs.YtpaekkcgphljoaaGreatDoor

namespace Go.Proofs.YtpaekkcgphljoaaGreatDoor
open Go Go.Proofs.YtpaekkcgphljoaaGreatDoor.Sx
set_option linter.unusedVariables false
set_option linter.unusedSimpArgs false
theorem val_zeros' (k : Nat) : val (List.replicate k 0) = 0 := by
  induction k with
  | zero => rfl
  | succ s ih => simp [List.replicate_succ, val, ih]
theorem Limbs.zeros (k : Nat) : Limbs (List.replicate k 0) := fun x hx => by simp at hx; omega
theorem pow_mono9 {i j : Nat} (h : i ≤ j) : (1000000000 : Int) ^ i ≤ 1000000000 ^ j := by
  have := Int.ofNat_le.2 (Nat.pow_le_pow_right (n := 1000000000) (by decide) h)
  simpa using this
theorem digs_lenI {z : Int} {k : Nat} (h0 : 0 ≤ z) (h : z < 1000000000 ^ k) : (digs z.toNat).length ≤ k := by
  apply digs_len
  have : ((z.toNat : Nat) : Int) < ((1000000000 ^ k : Nat) : Int) := by rw [Int.toNat_of_nonneg h0]; simpa using h
  exact Int.ofNat_lt.1 this
theorem digs_lenI' {z : Int} {k : Nat} (h0 : 0 ≤ z) (h : 1000000000 ^ k ≤ z) : k < (digs z.toNat).length := by
  rcases Nat.lt_or_ge k (digs z.toNat).length with g | g
  · exact g
  · exfalso
    have h1 := val_lt (digs_limbs z.toNat)
    rw [val_digs, Int.toNat_of_nonneg h0] at h1
    have := pow_mono9 g
    omega
theorem val_digsI {z : Int} (h : 0 ≤ z) : val (digs z.toNat) = z := by rw [val_digs, Int.toNat_of_nonneg h]
/-- the top place of a number without a zero on top -/
theorem canon_top {b : List Int} {m : Nat} (h : Canon b) (hl : b.length = m + 1) : 1 ≤ b.getD m 0 := by
  have h1 := h.2
  rw [getLast_getD (by omega), hl, Nat.add_sub_cancel] at h1
  have h2 := h.1.getD m
  have : b.getD m 0 ≠ 0 := fun e => h1 (by rw [e])
  omega
theorem impl_NatOf_c {w : World} {n : Int} (h0 : 0 ≤ n) (h1 : n ≤ 9223372036854775807) :
    Ret P n_impl_NatOf [.int .i64 n] w fun v w' => ∃ p' n' c', v = .slice p' n' c' ∧ Own w' w.heap.size T_int 1 p' n' c' ((digs n.toNat).map (Value.int .i64)) ∧ Ext w w' := by
  refine impl_NatOf_ret ?_
  unfold impl_NatOf
  refine ifD (fun h => absurd h (by omega)) (fun _ => ?_)
  have e : IntKind.wrap .u64 n = n := by
    have : (IntKind.wrap .u64 n) = n % 18446744073709551616 := rfl
    rw [this]; omega
  refine ⟨n, e.symm, ?_⟩
  refine Ret.at (impl_natOf_c h0 (by omega)) ?_
  rintro v w1 ⟨p', n', c', hv, ho, hx⟩
  subst hv
  exact ⟨_, _, _, rfl, _, _, _, rfl, ho, hx⟩
theorem impl_natDiv_c {w : World} {p q : Option Addr} {n c m d : Nat} {a b : List Int} (h : IntsR w p n c a) (k : IntsR w q m d b) (ha : Canon a) (hb : Canon b) (hb0 : 0 < m) (hn : n ≤ 100000) (hm : m ≤ 100000) :
    Ret P n_impl_natDiv [.slice p n c, .slice q m d] w fun v w' => ∃ p1 n1 c1 p2 n2 c2, v = .tuple #[.slice p1 n1 c1, .slice p2 n2 c2] ∧ Own w' w.heap.size T_int 1 p1 n1 c1 ((digs (val a / val b).toNat).map (Value.int .i64)) ∧ Own w' w.heap.size T_int 1 p2 n2 c2 ((digs (val a % val b).toNat).map (Value.int .i64)) ∧ (∀ z, p1.map (·.block) = some z → p2.map (·.block) ≠ some z) ∧ Ext w w' := by
  refine impl_natDiv_ret ?_
  unfold impl_natDiv
  have hla := h.1; have hlb := k.1
  have va0 := val_nonneg ha.1
  have vb0 : 0 < val b := canon_pos hb (by intro e; rw [e] at hlb; simp at hlb; omega)
  refine Ret.at (impl_natCmp_c h k) ?_
  rintro v w1 ⟨hv, y1⟩
  subst hv
  refine ⟨_, rfl, ifD (fun hlt => ?_) (fun hge => ifD (fun hone => ?_) (fun hmore => ?_))⟩
  · have hab : val a < val b := by rcases cmpL_val ha hb with h | h | h <;> omega
    intro r w2 hn2
    have e2 := hn2.r_eq
    have x2 := y1.trans hn2.ext
    refine Ret.at (impl_natCopy_c (h.ext x2) (by omega)) ?_
    rintro v w3 ⟨p', c', hv, ho, y3⟩
    subst hv
    refine ⟨_, _, _, rfl, _, _, _, _, _, _, rfl, ?_, ?_, ?_, x2.trans y3⟩
    · rw [Int.ediv_eq_zero_of_lt va0 hab]
      simp only [Int.toNat_zero, digs_zero]
      exact (((Own.fresh hn2).ext y3).mono (by have := y1.le; omega))
    · rw [Int.emod_eq_of_lt va0 hab, digs_val ha]
      exact ho.mono x2.le
    · intro z hz hz2
      have := (World.ownsRow.lt ho z (by rw [← hz2]; cases p' <;> rfl)).1
      simp at hz
      have := hn2.size
      omega
  · have hm1 : m = 1 := by omega
    subst hm1
    have hB := hb.1.getD 0
    have hT := canon_top (m := 0) hb (by omega)
    have ev : val b = b.getD 0 0 := by
      have := val_top (m := 0) hlb
      simpa [val] using this
    obtain ⟨ad, rfl, hl⟩ := ints_at (k.ext y1) (i := 0) (by omega) (by omega)
    refine ⟨⟨by omega, by omega⟩, _, by simpa only [Int.toNat_zero] using hl, ?_⟩
    rw [ev]
    simp only [Int.toNat_zero]
    refine Ret.at (impl_natSmall_c (h.ext y1) ha.1 ⟨by omega, by omega⟩ (by omega)) ?_
    rintro v w2 ⟨p1, n1, c1, hv, o1, y2⟩
    subst hv
    have Z0 := Int.emod_nonneg (val a) (show b.getD 0 0 ≠ 0 by omega)
    have Z1 := Int.emod_lt_of_pos (val a) (show 0 < b.getD 0 0 by omega)
    refine ⟨_, _, _, _, rfl, ?_⟩
    refine Ret.at (impl_NatOf_c Z0 (by omega)) ?_
    rintro v w3 ⟨p2, n2, c2, hv, o2, y3⟩
    subst hv
    refine ⟨_, _, _, rfl, _, _, _, _, _, _, rfl, (o1.ext y3).mono y1.le, o2.mono (by have := y1.le; have := y2.le; omega), fun z hz hz2 => ?_, y1.trans (y2.trans y3)⟩
    have := (World.ownsRow.lt o2 z (by rw [← hz2]; cases p2 <;> rfl)).1
    have := (World.ownsRow.lt o1 z (by rw [← hz]; cases p1 <;> rfl)).2
    omega
  · have hab : val b ≤ val a := by rcases cmpL_val ha hb with h | h | h <;> omega
    obtain ⟨t, rfl⟩ : ∃ t, m = t + 1 := ⟨m - 1, by omega⟩
    have hB := hb.1.getD t
    have hT := canon_top hb hlb
    have hmn : t + 1 ≤ n := by
      rcases Nat.lt_or_ge n (t + 1) with g | g
      · have := canon_len ha hb (by omega); omega
      · exact g
    have S0 : 1 ≤ 1000000000 / (b.getD t 0 + 1) := Int.le_ediv_of_mul_le (by omega) (by omega)
    have S1 : 1000000000 / (b.getD t 0 + 1) ≤ 500000000 := by
      have : 1000000000 / (b.getD t 0 + 1) < 500000001 := Int.ediv_lt_of_lt_mul (by omega) (by omega)
      omega
    have S2 : 1000000000 / (b.getD t 0 + 1) * (b.getD t 0 + 1) ≤ 1000000000 := Int.ediv_mul_le _ (by omega)
    generalize hsc : 1000000000 / (b.getD t 0 + 1) = sc at S0 S1 S2
    obtain ⟨ad, rfl, hl⟩ := ints_at (k.ext y1) (i := (t : Int)) (by omega) (by omega)
    simp only [Int.toNat_natCast] at hl
    have i1 : ((t + 1 : Nat) : Int) - 1 = (t : Int) := by omega
    rw [i1]
    refine exW ⟨by omega, by omega⟩ ⟨⟨by omega, by omega⟩, _, by simpa only [Int.toNat_natCast] using hl, exW ⟨by omega, by omega⟩ ⟨by omega, ?_⟩⟩
    rw [Int.tdiv_eq_ediv_of_nonneg (by omega), hsc]
    refine exW ⟨by omega, by omega⟩ fun r1 w2 hn2 => ?_
    have e2 := hn2.r_eq
    have x2 := y1.trans hn2.ext
    have one : ∀ {W W' : World} {r : Nat}, New W (.cells ⟨[.int .i64 sc]⟩ T_int (0, 0)) r W' → IntsR W' (some ⟨r, 0, none⟩) 1 1 [sc] := fun hn => ⟨rfl, Nat.le_refl _, by omega, fun _ => ⟨_, 0, rfl, hn.blk.seg⟩⟩
    have lsc : Limbs [sc] := fun x hx => by simp at hx; omega
    have vsc : val [sc] = sc := by simp [val]
    refine Ret.at (impl_natMul_c (h.ext x2) (one hn2) ha.1 lsc (by omega) (by omega)) ?_
    rintro v w3 ⟨up, un, uc, hv, ou, y3⟩
    subst hv
    refine ⟨_, _, _, rfl, fun r2 w4 hn4 => ?_⟩
    have x4 := (x2.trans y3).trans hn4.ext
    refine Ret.at (impl_natMul_c (k.ext x4) (one hn4) hb.1 lsc (by omega) (by omega)) ?_
    rintro v w5 ⟨vp, vn, vc, hv, ov, y5⟩
    subst hv
    refine ⟨_, _, _, rfl, ?_⟩
    rw [vsc] at ou ov
    have x5 := x4.trans y5
    have l2 := x2.le; have l3 := y3.le; have l4 := hn4.ext.le; have l5 := y5.le; have l1 := y1.le
    -- the values
    have U0 : 0 ≤ val a * sc := Int.mul_nonneg va0 (by omega)
    have V0 : val b ≤ val b * sc := by
      have := Int.mul_le_mul_of_nonneg_left S0 (Int.le_of_lt vb0); omega
    have aL := val_lt ha.1
    rw [hla] at aL
    have hpn := pow_pos9 n
    have U1 : val a * sc < 1000000000 ^ (n + 1) := by
      rw [Int.pow_succ]
      have h1 : val a * sc ≤ 1000000000 ^ n * sc := Int.mul_le_mul_of_nonneg_right (Int.le_of_lt aL) (by omega)
      have h2 : 1000000000 ^ n * sc < 1000000000 ^ n * 1000000000 := Int.mul_lt_mul_of_pos_left (by omega) hpn
      omega
    have hpt := pow_pos9 t
    have bt := val_top hlb
    have bb := take_bounds (m := t) hb.1 (by omega)
    have Vlow : 1000000000 ^ t * sc ≤ val b * sc := by
      refine Int.mul_le_mul_of_nonneg_right ?_ (by omega)
      have := Int.mul_le_mul_of_nonneg_left hT (Int.le_of_lt hpt)
      omega
    have Vlow1 : 1000000000 ^ t ≤ val b * sc := by
      have := Int.mul_le_mul_of_nonneg_left S0 (Int.le_of_lt hpt); omega
    have Vhi : val b * sc < 1000000000 ^ (t + 1) := by
      have h1 : val b * sc < (1000000000 ^ t * (b.getD t 0 + 1)) * sc := by
        refine Int.mul_lt_mul_of_pos_right ?_ (by omega)
        rw [Int.mul_add]; omega
      have h2 : (1000000000 ^ t * (b.getD t 0 + 1)) * sc = 1000000000 ^ t * (sc * (b.getD t 0 + 1)) := by rw [Int.mul_assoc, Int.mul_comm sc]
      have h3 : 1000000000 ^ t * (sc * (b.getD t 0 + 1)) ≤ 1000000000 ^ t * 1000000000 := Int.mul_le_mul_of_nonneg_left S2 (Int.le_of_lt hpt)
      rw [Int.pow_succ]; omega
    have hvlen : (digs (val b * sc).toNat).length = t + 1 := by
      have h1 := digs_lenI (by omega) Vhi
      have h2 := digs_lenI' (by omega) Vlow1
      omega
    have hvn : vn = t + 1 := by
      have := ov.len
      simp only [List.length_map] at this
      omega
    have hvval := val_digsI (show 0 ≤ val b * sc by omega)
    have hvtop := canon_top (digs_canon (val b * sc).toNat) hvlen
    have hvlim := digs_limbs (val b * sc).toNat
    have hUval := val_digsI U0
    have hUlen := digs_lenI U0 U1
    generalize hVl : digs (val b * sc).toNat = vs at ov hvlen hvval hvtop hvlim
    generalize hUl : digs (val a * sc).toNat = us at ou hUval hUlen
    have hUlim : Limbs us := by rw [← hUl]; exact digs_limbs _
    have hun : un = us.length := by have := ou.len; simp only [List.length_map] at this; omega
    subst hvn
    have dis0 : ∀ z, up.map (·.block) = some z → vp.map (·.block) ≠ some z := fun z hz hz2 => by
      have := (World.ownsRow.lt ou z (by rw [← hz]; cases up <;> rfl)).2
      have := (World.ownsRow.lt ov z (by rw [← hz2]; cases vp <;> rfl)).1
      omega
    have ou5 := ((ou.ext hn4.ext).ext y5).mono (base' := w.heap.size) (by omega)
    have ov5 := ov.mono (base' := w.heap.size) (by omega)
    refine ⟨fun P' N' C' wr => ∃ s, N' = us.length + s ∧ N' ≤ n + 1 ∧ Own wr w.heap.size T_int 1 P' N' C' ((us ++ List.replicate s 0).map (Value.int .i64)) ∧ Own wr w.heap.size T_int 1 vp (t + 1) vc (vs.map (Value.int .i64)) ∧ Ext w wr ∧ (∀ z, P'.map (·.block) = some z → vp.map (·.block) ≠ some z), fun _ N' _ _ => n + 1 - N',
      ⟨0, by omega, by omega, by simpa using ou5, ov5, x5, dis0⟩, ?_⟩
    intro junk wr up1 un1 uc1 ⟨s, hs, hsn, ou1, ov1, x6, dis1⟩
    have l6 := x6.le
    refine ifD (fun hgrow => ?_) (fun hfull => ?_)
    · intro r3 w7 hn7
      have e7 := hn7.r_eq
      obtain ⟨p', c', w8, ap, o8, ch8, d8⟩ := (ou1.ext hn7.ext).push1 (P := P) sliceT_int (by have := hn7.ext.le; omega) hn7.blk rfl (by simp [Value.oneCell']) (by omega) (by omega)
      have upl : ∀ z, up1.map (·.block) = some z → w.heap.size ≤ z ∧ z < wr.heap.size := fun z hz => World.ownsRow.lt ou1 z (by rw [← hz]; cases up1 <;> rfl)
      have vpl : ∀ z, vp.map (·.block) = some z → w.heap.size ≤ z ∧ z < wr.heap.size := fun z hz => World.ownsRow.lt ov1 z (by rw [← hz]; cases vp <;> rfl)
      refine ⟨p', _, c', w8, ap, ⟨s + 1, by omega, by omega, ?_, (ov1.ext hn7.ext).chg ch8 (fun z hz hm => dis1 z (opt_mem hm) hz), (x6.trans hn7.ext).chg ch8 (fun z hz => (upl z (opt_mem hz)).1), fun z hz hz2 => ?_⟩, ?_⟩
      · rw [List.replicate_succ', ← List.append_assoc]
        simpa using o8
      · rcases d8 with d8 | d8
        · exact dis1 z (d8 ▸ hz) hz2
        · have := d8 z hz; have := (vpl z hz2).2; have := hn7.size; omega
      · show n + 1 - (un1 + 1) < n + 1 - un1
        omega
    · have hN : un1 = n + 1 := by omega
      have hi66 : ((un1 : Nat) : Int) - ((t + 1 : Nat) : Int) = ((n - t : Nat) : Int) := by omega
      rw [hi66]
      refine exW ⟨by omega, by omega⟩ ⟨⟨by omega, by omega, by omega⟩, ?_⟩
      rw [Int.toNat_natCast]
      intro r4 w9 hn9
      have e9 := hn9.r_eq; have s9 := hn9.size
      have hb9 := hn9.blk
      rw [zeroRow_int, Nat.mul_one] at hb9
      obtain ⟨bu, ys, rfl, hbu, hblk, hyl, hnc, hcm, hyt⟩ := ou1.blk (by omega)
      have hbul := hblk.lt
      generalize hos : us ++ List.replicate s 0 = o0 at ou1 hyt
      have ho0 : o0.length = n + 1 := by rw [← hos]; simp; omega
      have hov : val o0 = val a * sc := by rw [← hos, val_append, val_zeros', Int.mul_zero, Int.add_zero, hUval]
      have hol0 : Limbs o0 := by rw [← hos]; exact Limbs.append.2 ⟨hUlim, Limbs.zeros s⟩
      have hys : ys = o0.map (Value.int .i64) ++ ys.drop (un1 * 1) := by rw [← hyt, List.take_append_drop]
      generalize hrs : ys.drop (un1 * 1) = rs at hys
      rw [hys] at hblk
      have vpne : ∀ z, vp.map (·.block) = some z → z ≠ bu := fun z hz e => dis1 bu rfl (by rw [hz, e])
      have vpl : ∀ z, vp.map (·.block) = some z → z < wr.heap.size := fun z hz => (World.ownsRow.lt ov1 z (by rw [← hz]; cases vp <;> rfl)).2
      refine exW ⟨by omega, by omega⟩ ⟨fun i wr2 => ∃ (j : Nat) (o ql : List Int), i = (j : Int) - 1 ∧ j ≤ n - t ∧ o.length = n + 1 ∧ ql.length = n - t ∧ Blk wr2 bu T_int (o.map (Value.int .i64) ++ rs) ∧ Blk wr2 r4 T_int (ql.map (Value.int .i64)) ∧ IntsR wr2 vp (t + 1) vc vs ∧ Ext w wr2 ∧ Limbs o ∧ Limbs ql ∧ (∀ z, z < j → ql.getD z 0 = 0) ∧ val o + val ql * (val b * sc) = val a * sc ∧ val o < 1000000000 ^ j * (val b * sc), fun i _ => (i + 1).toNat,
        ⟨n - t, o0, List.replicate (n - t) 0, rfl, by omega, ho0, by simp, hblk.ext hn9.ext, by simpa using hb9, (ov1.ints).ext hn9.ext, x6.trans hn9.ext, hol0, Limbs.zeros _, fun z hz => by simp [List.getD_eq_getElem?_getD, hz], by rw [val_zeros', Int.zero_mul]; omega, ?_⟩, ?_⟩
      · rw [hov]
        have h1 : val a * sc < 1000000000 ^ n * sc := Int.mul_lt_mul_of_pos_right aL (by omega)
        have h2 : (1000000000 : Int) ^ (n - t) * (1000000000 ^ t * sc) ≤ 1000000000 ^ (n - t) * (val b * sc) := Int.mul_le_mul_of_nonneg_left Vlow (Int.le_of_lt (pow_pos9 _))
        rw [← Int.mul_assoc, ← Int.pow_add, show n - t + t = n by omega] at h2
        omega
      intro junk2 wr2 i ⟨j, o, ql, hi, hj, hol, hqll, hbu2, hbq, kv, x10, hlo, hlq, hqz, hval, hlt⟩
      subst hi
      have l10 := x10.le
      refine ifD (fun hpos => ?_) (fun hend => ?_)
      · obtain ⟨f, rfl⟩ : ∃ f, j = f + 1 := ⟨j - 1, by omega⟩
        have ef : ((f + 1 : Nat) : Int) - 1 = (f : Int) := by omega
        rw [ef]
        have e81 : (f : Int) + ((t + 1 : Nat) : Int) + 1 = ((f + (t + 1) + 1 : Nat) : Int) := by omega
        refine exW ⟨by omega, by omega⟩ (exW ⟨by omega, by omega⟩ ?_)
        rw [e81]
        simp only [Int.toNat_natCast]
        have hsub : Sx.sub (some ⟨bu, 0, none⟩) f uc1 1 = some ⟨bu, f, none⟩ := by
          unfold Sx.sub
          rw [if_neg (by omega)]
          simp [Addr.add]
          omega
        rw [hsub, show f + (t + 1) + 1 - f = t + 1 + 1 by omega]
        refine ⟨⟨by omega, by omega⟩, ⟨by omega, by omega⟩, ?_⟩
        -- the window
        have esplit : o = o.take f ++ ((o.drop f).take (t + 1 + 1) ++ (o.drop f).drop (t + 1 + 1)) := by rw [List.take_append_drop, List.take_append_drop]
        have lA : (o.take f).length = f := by rw [List.length_take]; omega
        have lU : ((o.drop f).take (t + 1 + 1)).length = t + 1 + 1 := by rw [List.length_take, List.length_drop]; omega
        have hlA : Limbs (o.take f) := hlo.take f
        have hlD : Limbs (o.drop f) := fun x hx => hlo x (List.mem_of_mem_drop hx)
        have hlU := hlD.take (t + 1 + 1)
        have hlC : Limbs ((o.drop f).drop (t + 1 + 1)) := fun x hx => hlD x (List.mem_of_mem_drop hx)
        generalize o.take f = A at esplit lA hlA
        generalize (o.drop f).take (t + 1 + 1) = U at esplit lU hlU
        generalize (o.drop f).drop (t + 1 + 1) = C at esplit hlC
        subst esplit
        have hA0 := val_nonneg hlA; have hA1 := val_lt hlA; have hC0 := val_nonneg hlC; have hU0 := val_nonneg hlU
        rw [lA] at hA1
        rw [val_append, val_append, lA, lU, Int.mul_add, ← Int.mul_assoc, ← Int.pow_add] at hval hlt
        have hpf := pow_pos9 f
        have hCz : val C = 0 := by
          rcases Int.lt_or_le 0 (val C) with g | g
          · exfalso
            have g1 := Int.mul_le_mul_of_nonneg_left (show 1 ≤ val C by omega) (Int.le_of_lt (pow_pos9 (f + (t + 1 + 1))))
            have g2 := Int.mul_nonneg (Int.le_of_lt hpf) hU0
            have g3 : (1000000000 : Int) ^ (f + 1) * (val b * sc) < 1000000000 ^ (f + 1) * 1000000000 ^ (t + 1) := Int.mul_lt_mul_of_pos_left Vhi (pow_pos9 _)
            rw [← Int.pow_add, show f + 1 + (t + 1) = f + (t + 1 + 1) by omega] at g3
            omega
          · omega
        rw [hCz, Int.mul_zero, Int.add_zero] at hval hlt
        have hUD : val U < 1000000000 * (val b * sc) := by
          have g1 : (1000000000 : Int) ^ f * val U < 1000000000 ^ f * (1000000000 * (val b * sc)) := by
            have e : (1000000000 : Int) ^ f * (1000000000 * (val b * sc)) = 1000000000 ^ (f + 1) * (val b * sc) := by rw [Int.pow_succ, Int.mul_assoc]
            rw [e]; omega
          exact Int.lt_of_mul_lt_mul_left g1 (Int.le_of_lt hpf)
        have hbw : Blk wr2 bu T_int (A.map (Value.int .i64) ++ U.map (Value.int .i64) ++ (C.map (Value.int .i64) ++ rs)) := by
          have := hbu2
          rw [List.map_append, List.map_append] at this
          simpa only [List.append_assoc] using this
        refine Ret.at (impl_divStep_c hbw (by rw [List.length_map, lA]) lU kv vpne hlU hvlim (by simpa using hvtop) (by omega) (by omega) (by rw [hvval]; exact hUD)) ?_
        rintro v w11 ⟨x, u', hv, x0, x1, hl', hb', ch', hlu', hvu', hu0', hu1'⟩
        subst hv
        rw [hvval] at hvu' hu1'
        have hbq' := hbq.chg ch' (by simp; omega)
        have kv' := kv.chg ch' (fun z hz hm => vpne z hz (by simpa using hm))
        obtain ⟨w12, st, hbq12, ch12, sz12⟩ := blk_set hbq' (i := (f : Int)) (by omega) (by omega) x
        simp only [Int.toNat_natCast] at st hbq12
        have hbu12 := hb'.chg ch12 (by simp; omega)
        refine ⟨x, rfl, ⟨by omega, by omega⟩, w12, st, exW ⟨by omega, by omega⟩ ⟨⟨f, A ++ (u' ++ C), ql.set f x, by omega, by omega, ?_, by simpa using hqll, ?_, hbq12, kv'.chg ch12 (fun z hz hm => by have := vpl z hz; simp at hm; omega), (x10.chg ch' (by simp; omega)).chg ch12 (by simp; omega), ?_, hlq.set ⟨x0, x1⟩, fun z hz => by rw [getD_set_ne _ (by omega)]; exact hqz z (by omega), ?_, ?_⟩, ?_⟩⟩
        · simp only [List.length_append] at hol ⊢; omega
        · simpa only [List.map_append, List.append_assoc] using hbu12
        · exact Limbs.append.2 ⟨hlA, Limbs.append.2 ⟨hlu', hlC⟩⟩
        · rw [val_append, val_append, lA, hCz, Int.mul_zero, Int.add_zero, val_set _ _ (by omega), hqz f (by omega), Int.sub_zero, hvu', Int.mul_sub, Int.add_mul]
          have : (1000000000 : Int) ^ f * x * (val b * sc) = 1000000000 ^ f * (x * (val b * sc)) := Int.mul_assoc _ _ _
          omega
        · rw [val_append, val_append, lA, hCz, Int.mul_zero, Int.add_zero]
          have g1 : (1000000000 : Int) ^ f * (val u' + 1) ≤ 1000000000 ^ f * (val b * sc) := Int.mul_le_mul_of_nonneg_left (by omega) (Int.le_of_lt hpf)
          rw [Int.mul_add] at g1
          omega
        · show ((f : Int) - 1 + 1).toNat < ((f : Int) + 1).toNat
          omega
      · have hj0 : j = 0 := by omega
        subst hj0
        rw [show (1000000000 : Int) ^ 0 = 1 from rfl, Int.one_mul] at hlt
        have hrd : IntsR wr2 (some ⟨bu, 0, none⟩) un1 uc1 o := by
          refine ⟨by omega, hnc, by simp only [maxLen] at hcm; omega, fun _ => ⟨bu, 0, rfl, ?_⟩⟩
          have := hbu2.seg.take o.length
          rwa [List.take_left' (by simp)] at this
        refine Ret.at (impl_trim_c hrd) ?_
        rintro v w11 ⟨hv, hw, hr⟩
        subst hv; subst hw
        refine ⟨_, _, _, rfl, ?_⟩
        rw [trimL_eq hlo] at hr
        have hlen2 : (digs (val o).toNat).length ≤ n + 1 := by
          have := trimL_len o
          rw [trimL_eq hlo] at this; omega
        have ho0' := val_nonneg hlo
        rw [trimL_eq hlo]
        refine Ret.at (impl_natSmall_c hr (digs_limbs _) ⟨by omega, by omega⟩ (by omega)) ?_
        rintro v w12 ⟨p2, n2, c2, hv, o2, y12⟩
        subst hv
        rw [val_digsI ho0'] at o2
        refine ⟨_, _, _, _, rfl, ?_⟩
        have hq0 := val_nonneg hlq
        have hown : Own w12 w.heap.size T_int 1 (some ⟨r4, 0, none⟩) (n - t) (n - t) (ql.map (Value.int .i64)) := Own.of_blk (hbq.ext y12) (by omega) (by simp [hqll]) (by simp only [maxLen]; omega)
        refine Ret.at (impl_trim_c hown.ints) ?_
        rintro v w13 ⟨hv, hw, hr13⟩
        subst hv; subst hw
        -- the quotient and the rest
        have hval' : (val a - val ql * val b) * sc = val o := by
          rw [Int.sub_mul, Int.mul_assoc]; omega
        have hR0 : 0 ≤ val a - val ql * val b := by
          rcases Int.lt_or_le (val a - val ql * val b) 0 with g | g
          · have := Int.mul_le_mul_of_nonneg_right (show val a - val ql * val b ≤ -1 by omega) (show 0 ≤ sc by omega)
            omega
          · exact g
        have hR1 : val a - val ql * val b < val b := Int.lt_of_mul_lt_mul_right (a := sc) (by omega) (by omega)
        have hd : val a / val b = val ql := by
          have : val a = (val a - val ql * val b) + val b * val ql := by rw [Int.mul_comm (val b)]; omega
          rw [this, Int.add_mul_ediv_left _ _ (by omega), Int.ediv_eq_zero_of_lt hR0 hR1, Int.zero_add]
        have hr' : val a % val b = val a - val ql * val b := by
          have := Int.mul_ediv_add_emod (val a) (val b)
          rw [hd, Int.mul_comm] at this
          omega
        have hos2 : val o / sc = val a - val ql * val b := by rw [← hval', Int.mul_ediv_cancel _ (by omega)]
        rw [hos2] at o2
        refine ⟨_, _, _, rfl, _, _, _, _, _, _, rfl, ?_, ?_, fun z hz hz2 => ?_, x10.trans y12⟩
        · rw [hd, ← trimL_eq hlq]
          have hle := trimL_len ql
          have := hown.sub (m := (trimL ql).length) (by omega)
          rwa [← trimL_prefix] at this
        · rw [hr']
          exact o2.mono l10
        · have := (World.ownsRow.lt o2 z (by rw [← hz2]; cases p2 <;> rfl)).1
          have := hbq.lt
          simp at hz
          omega
end Go.Proofs.YtpaekkcgphljoaaGreatDoor

namespace Go.Proofs.YtpaekkcgphljoaaGreatDoor
open Go Go.Proofs.YtpaekkcgphljoaaGreatDoor.Sx
set_option linter.unusedVariables false
set_option linter.unusedSimpArgs false
theorem spec_l03Small_c {w : World} {p : Option Addr} {n c : Nat} {a : List Int} {d : Int} (h : IntsR w p n c a) (ha : Limbs a) (hd : 0 < d ∧ d < 1000000000) (hn : n ≤ 10000000) :
    Ret P n_spec_l03Small [.slice p n c, .int .i64 d] w fun v w' => ∃ p' n' c', v = .tuple #[.slice p' n' c', .int .i64 (val a % d)] ∧ Own w' w.heap.size T_int 1 p' n' c' ((digs (val a / d).toNat).map (Value.int .i64)) ∧ Ext w w' := by
  refine spec_l03Small_ret ?_
  unfold spec_l03Small
  have hla := h.1
  refine ⟨⟨by omega, by omega, by omega⟩, fun r w1 hn1 => exW ⟨by omega, by omega⟩ ?_⟩
  have hre := hn1.r_eq
  have hb1 := hn1.blk
  rw [zeroRow_int, Nat.mul_one] at hb1
  refine ⟨fun rest i wr => ∃ (s : Nat) (o : List Int), i = (s : Int) - 1 ∧ s ≤ n ∧ o.length = n ∧ Blk wr r T_int (o.map (Value.int .i64)) ∧ Ext w wr ∧ Limbs o ∧ 0 ≤ rest ∧ rest < d ∧ val (a.drop s) = d * val (o.drop s) + rest, fun _ i _ => (i + 1).toNat,
    ⟨n, List.replicate n 0, rfl, by omega, by simp, by simpa using hb1, hn1.ext, fun x hx => by simp at hx; omega, by omega, by omega, by rw [List.drop_of_length_le (by omega), List.drop_of_length_le (by simp)]; simp [val]⟩, ?_⟩
  intro junk wr rest i ⟨s, o, hi, hsn, hol, hblk, hx, hlo, hr0, hr1, hv⟩
  subst hi
  refine ifD (fun hlt => ?_) (fun hge => ?_)
  · obtain ⟨t, rfl⟩ : ∃ t, s = t + 1 := ⟨s - 1, by omega⟩
    have A := ha.getD t
    have e1 : (((t + 1 : Nat) : Int) - 1).toNat = t := by omega
    obtain ⟨ad, rfl, hl⟩ := ints_at (h.ext hx) (i := ((t + 1 : Nat) : Int) - 1) (by omega) (by omega)
    rw [e1] at hl ⊢
    have T1 : rest * 1000000000 + a.getD t 0 < 1000000000 * d := by
      have : rest * 1000000000 ≤ (d - 1) * 1000000000 := Int.mul_le_mul_of_nonneg_right (by omega) (by omega)
      omega
    have T0 : 0 ≤ rest * 1000000000 + a.getD t 0 := by omega
    have Y0 : 0 ≤ (rest * 1000000000 + a.getD t 0) / d := Int.ediv_nonneg T0 (by omega)
    have Y1 : (rest * 1000000000 + a.getD t 0) / d < 1000000000 := Int.ediv_lt_of_lt_mul (by omega) T1
    have Z0 := Int.emod_nonneg (rest * 1000000000 + a.getD t 0) (show d ≠ 0 by omega)
    have Z1 := Int.emod_lt_of_pos (rest * 1000000000 + a.getD t 0) hd.1
    have Q := Int.mul_ediv_add_emod (rest * 1000000000 + a.getD t 0) d
    refine exW ⟨by omega, by omega⟩ ⟨⟨by omega, by omega⟩, _, hl, exW ⟨by omega, by omega⟩ ⟨by omega, ?_⟩⟩
    rw [Int.tdiv_eq_ediv_of_nonneg T0, Int.tmod_eq_emod_of_nonneg T0]
    obtain ⟨w3, st, hb3, ch3, sz3⟩ := blk_set hblk (i := (t : Int)) (by omega) (by omega) ((rest * 1000000000 + a.getD t 0) / d)
    simp only [Int.toNat_natCast] at st hb3
    refine exW ⟨by omega, by omega⟩ ⟨⟨by omega, by omega⟩, w3, st, by omega, _, rfl, exW ⟨by omega, by omega⟩ ⟨⟨t, _, by omega, by omega, by simpa using hol, hb3, hx.chg ch3 (by simp; omega), hlo.set ⟨Y0, Y1⟩, Z0, Z1, ?_⟩, ?_⟩⟩
    · have ea : a.drop t = a.getD t 0 :: a.drop (t + 1) := by
        rw [List.drop_eq_getElem_cons (by omega), List.getD_eq_getElem?_getD, List.getElem?_eq_getElem (by omega)]; rfl
      have eo : (o.set t ((rest * 1000000000 + a.getD t 0) / d)).drop t = (rest * 1000000000 + a.getD t 0) / d :: o.drop (t + 1) := by
        rw [List.drop_eq_getElem_cons (by simp; omega), List.getElem_set_self, List.drop_set_of_lt (by omega)]
      rw [ea, eo, val, val, hv, Int.mul_add d]
      have : d * (1000000000 * val (o.drop (t + 1))) = 1000000000 * (d * val (o.drop (t + 1))) := by rw [Int.mul_left_comm]
      omega
    · show (((t + 1 : Nat) : Int) - 1 - 1 + 1).toNat < (((t + 1 : Nat) : Int) - 1 + 1).toNat
      omega
  · have hs0 : s = 0 := by omega
    subst hs0
    simp only [List.drop_zero] at hv
    have hown : Own wr w.heap.size T_int 1 (some ⟨r, 0, none⟩) n n (o.map (Value.int .i64)) := Own.of_blk hblk (by omega) (by simp [hol]) (by simp only [maxLen]; omega)
    refine Ret.at (spec_l02Trim_c hown.ints) ?_
    rintro v w4 ⟨hv4, hw4, hr4⟩
    subst hv4; subst hw4
    have e1 : val a / d = val o := by rw [hv, Int.mul_comm, Int.add_comm, Int.add_mul_ediv_right _ _ (by omega), Int.ediv_eq_zero_of_lt hr0 hr1, Int.zero_add]
    have e2 : val a % d = rest := by rw [hv, Int.mul_comm, Int.add_comm, Int.add_mul_emod_self_right, Int.emod_eq_of_lt hr0 hr1]
    refine ⟨_, _, _, rfl, _, _, _, by rw [e2], ?_, hx⟩
    rw [e1, ← trimL_eq hlo]
    have hle := trimL_len o
    have := hown.sub (m := (trimL o).length) (by omega)
    rwa [← trimL_prefix] at this
theorem spec_l02Sub_o {w : World} {p q : Option Addr} {n c m d : Nat} {a b : List Int} (h : IntsR w p n c a) (k : IntsR w q m d b) (ha : Limbs a) (hb : Limbs b) (hn : n ≤ 10000000) (hbl : m ≤ n) (hab : val b ≤ val a) :
    Ret P n_spec_l02Sub [.slice p n c, .slice q m d] w fun v w' => ∃ p' n' c', v = .slice p' n' c' ∧ Own w' w.heap.size T_int 1 p' n' c' ((digs (val a - val b).toNat).map (Value.int .i64)) ∧ Ext w w' := by
  refine spec_l02Sub_ret ?_
  unfold spec_l02Sub
  have hla := h.1; have hlb := k.1
  intro r w1 hn1
  let Inv : Option Addr → Nat → Nat → Int → Int → World → Prop := fun p on c less i wr => ∃ (o : List Int), i = on ∧ on ≤ n ∧ Own wr w.heap.size T_int 1 p on c (o.map (Value.int .i64)) ∧ Ext w wr ∧ Limbs o ∧ o.length = on ∧ 0 ≤ less ∧ less ≤ 1 ∧ val o - 1000000000 ^ on * less = val (a.take on) - val (b.take on)
  refine ⟨Inv, fun _ _ _ _ i _ => n - i.toNat, ⟨[], rfl, by omega, Own.fresh hn1, hn1.ext, Limbs.nil, rfl, by omega, by omega, by simp [val]⟩, ?_⟩
  intro junk wr op j oc less i ⟨o, hi, hjn, hown, hx, hlo, hol, hc0, hc1, hv⟩
  subst hi
  have A := ha.getD j; have B := hb.getD j
  have bb : (j : Int) < m ∨ b.getD j 0 = 0 := by
    by_cases e : j < m
    · left; omega
    · right; exact getD_beyond (by omega)
  have J1 : ∀ l' u, (j : Int) < n → u = a.getD j 0 - less - b.getD j 0 + 1000000000 * l' → 0 ≤ u → u < 1000000000 → 0 ≤ l' → l' ≤ 1 →
      spec_l02Sub_j1 wr Inv (fun _ _ _ _ i _ => n - i.toNat) op j oc less j l' u wr fun v w' => ∃ p' n' c', v = .slice p' n' c' ∧ Own w' w.heap.size T_int 1 p' n' c' ((digs (val a - val b).toNat).map (Value.int .i64)) ∧ Ext w w' := by
    intro l' u hlt hu h0 h1 h2 h3
    unfold spec_l02Sub_j1
    intro r1 w2 hn2
    obtain ⟨p', c', w3, g1, g2, g3⟩ := Own.push hown hx.le hn2 (by omega)
    refine ⟨_, _, _, _, g1, exW ⟨by omega, by omega⟩ ⟨⟨o ++ [u], by omega, by omega, g2, g3 w hx (Nat.le_refl _), hlo.snoc ⟨h0, h1⟩, by simp [hol], h2, h3, sub_step hol hv rfl hu⟩, ?_⟩⟩
    show n - ((j : Int) + 1).toNat < n - (j : Int).toNat
    omega
  have J0 : ∀ t, (j : Int) < n → t = a.getD j 0 - less - b.getD j 0 →
      spec_l02Sub_j0 wr Inv (fun _ _ _ _ i _ => n - i.toNat) op j oc less j t wr fun v w' => ∃ p' n' c', v = .slice p' n' c' ∧ Own w' w.heap.size T_int 1 p' n' c' ((digs (val a - val b).toNat).map (Value.int .i64)) ∧ Ext w w' := by
    intro t hlt ht
    unfold spec_l02Sub_j0
    exact ifD (fun hneg => exW ⟨by omega, by omega⟩ (J1 1 _ hlt (by omega) (by omega) (by omega) (by omega) (by omega))) (fun hpos => J1 0 _ hlt (by omega) (by omega) (by omega) (by omega) (by omega))
  refine ifD (fun hlt => ?_) (fun hge => ?_)
  · obtain ⟨ad, rfl, hl⟩ := ints_at (h.ext hx) (i := (j : Int)) (by omega) hlt
    refine ⟨⟨by omega, by omega⟩, _, hl, exW ⟨by simp only [Int.toNat_natCast]; omega, by simp only [Int.toNat_natCast]; omega⟩ (ifD (fun hlm => ?_) (fun hge => J0 _ hlt (by simp only [Int.toNat_natCast]; rw [bb.resolve_left hge]; omega)))⟩
    obtain ⟨ad2, rfl, hl2⟩ := ints_at (k.ext hx) (i := (j : Int)) (by omega) hlm
    exact ⟨⟨by omega, by omega⟩, _, hl2, exW ⟨by simp only [Int.toNat_natCast]; omega, by simp only [Int.toNat_natCast]; omega⟩ (J0 _ hlt (by simp only [Int.toNat_natCast]))⟩
  · have hjn' : j = n := by omega
    subst hjn'
    rw [← hla] at hv
    have hval := sub_end hlo (by omega) (by omega) hab hc0 hc1 hv
    refine Ret.at (spec_l02Trim_c hown.ints) ?_
    rintro v w4 ⟨hv4, hw4, hr4⟩
    subst hv4; subst hw4
    refine ⟨_, _, _, rfl, _, _, _, rfl, ?_, hx⟩
    have e := trimL_eq hlo
    rw [hval] at e
    rw [← e]
    have hle := trimL_len o
    have := hown.sub (m := (trimL o).length) (by omega)
    rwa [← trimL_prefix] at this
theorem spec_l03Digit_c {w : World} {p q : Option Addr} {n c m d : Nat} {a b : List Int} (h : IntsR w p n c a) (k : IntsR w q m d b) (ha : Canon a) (hb : Canon b) (hb0 : 0 < m) (hm : m ≤ 100000) (hlt : val a < 1000000000 * val b) :
    Ret P n_spec_l03Digit [.slice p n c, .slice q m d] w fun v w' => v = .int .i64 (val a / val b) ∧ Ext w w' := by
  refine spec_l03Digit_ret ?_
  unfold spec_l03Digit
  have hla := h.1; have hlb := k.1
  have va0 := val_nonneg ha.1
  have vb0 : 0 < val b := canon_pos hb (by intro e; rw [e] at hlb; simp at hlb; omega)
  refine ⟨fun lo hi wr => Ext w wr ∧ 0 ≤ lo ∧ lo ≤ hi ∧ hi ≤ 999999999 ∧ lo * val b ≤ val a ∧ val a < (hi + 1) * val b, fun lo hi _ => (hi - lo).toNat, ⟨Ext.refl _, by omega, by omega, by omega, by omega, by omega⟩, ?_⟩
  intro junk wr lo hi ⟨hx, h0, h1, h2, hl, hh⟩
  refine ifD (fun hmore => ?_) (fun hend => ?_)
  · refine exW ⟨by omega, by omega⟩ (exW ⟨by omega, by omega⟩ ⟨by decide, ?_⟩)
    rw [Int.tdiv_eq_ediv_of_nonneg (by omega)]
    refine exW ⟨by omega, by omega⟩ ?_
    have Q1 : lo < (lo + hi + 1) / 2 := by omega
    have Q2 : (lo + hi + 1) / 2 ≤ hi := by omega
    generalize (lo + hi + 1) / 2 = z at Q1 Q2
    refine Ret.at (spec_NatOf_c (show 0 ≤ z by omega) (by omega)) ?_
    rintro v w1 ⟨p1, n1, c1, hv, o1, y1⟩
    subst hv
    refine ⟨_, _, _, rfl, ?_⟩
    have ln1 : n1 ≤ 1 := by
      have e := o1.len
      have := digs_lenI (z := z) (k := 1) (by omega) (by rw [show (1000000000 : Int) ^ 1 = 1000000000 from rfl]; omega)
      simp only [List.length_map] at e
      omega
    refine Ret.at (spec_l02Mul_c (k.ext (hx.trans y1)) o1.ints hb.1 (digs_limbs _) (by omega) (by omega)) ?_
    rintro v w2 ⟨p2, n2, c2, hv, o2, y2⟩
    subst hv
    refine ⟨_, _, _, rfl, ?_⟩
    rw [val_digsI (by omega)] at o2
    have Z0 : 0 ≤ val b * z := Int.mul_nonneg (by omega) (by omega)
    refine Ret.at (spec_l02Cmp_c o2.ints (h.ext (hx.trans (y1.trans y2)))) ?_
    rintro v w3 ⟨hv, y3⟩
    subst hv
    have hc := cmpL_val (digs_canon (val b * z).toNat) ha
    rw [val_digsI Z0] at hc
    have ezb := Int.mul_comm (val b) z
    refine ⟨_, rfl, ifD (fun hle => ⟨⟨hx.trans (y1.trans (y2.trans y3)), by omega, by omega, by omega, by rcases hc with h | h | h <;> omega, hh⟩, ?_⟩) (fun hgt => exW ⟨by omega, by omega⟩ ⟨⟨hx.trans (y1.trans (y2.trans y3)), by omega, by omega, by omega, hl, ?_⟩, ?_⟩)⟩
    · show (hi - z).toNat < (hi - lo).toNat
      omega
    · rw [Int.sub_add_cancel]; rcases hc with h | h | h <;> omega
    · show (z - 1 - lo).toNat < (hi - lo).toNat
      omega
  · have : lo = hi := by omega
    subst this
    refine ⟨?_, hx⟩
    congr 1
    have e : val a = (val a - lo * val b) + val b * lo := by rw [Int.mul_comm (val b)]; omega
    rw [Int.add_mul, Int.one_mul] at hh
    rw [e, Int.add_mul_ediv_left _ _ (by omega), Int.ediv_eq_zero_of_lt (by omega) (by omega), Int.zero_add]
theorem spec_l03Div_c {w : World} {p q : Option Addr} {n c m d : Nat} {a b : List Int} (h : IntsR w p n c a) (k : IntsR w q m d b) (ha : Limbs a) (hb : Canon b) (hb0 : 0 < m) (hn : n ≤ 100000) (hm : m ≤ 100000) :
    Ret P n_spec_l03Div [.slice p n c, .slice q m d] w fun v w' => ∃ p1 n1 c1 p2 n2 c2, v = .tuple #[.slice p1 n1 c1, .slice p2 n2 c2] ∧ IntsR w' p1 n1 c1 (digs (val a / val b).toNat) ∧ IntsR w' p2 n2 c2 (digs (val a % val b).toNat) ∧ Ext w w' := by
  refine spec_l03Div_ret ?_
  unfold spec_l03Div
  have hla := h.1; have hlb := k.1
  have va0 := val_nonneg ha
  have vb0 : 0 < val b := canon_pos hb (by intro e; rw [e] at hlb; simp at hlb; omega)
  refine ifD (fun hone => ?_) (fun hmore => ?_)
  · have hm1 : m = 1 := by omega
    subst hm1
    have hB := hb.1.getD 0
    have hT := canon_top (m := 0) hb (by omega)
    have ev : val b = b.getD 0 0 := by
      have := val_top (m := 0) hlb
      simpa [val] using this
    obtain ⟨ad, rfl, hl⟩ := ints_at k (i := 0) (by omega) (by omega)
    refine ⟨⟨by omega, by omega⟩, _, by simpa only [Int.toNat_zero] using hl, ?_⟩
    rw [ev]
    simp only [Int.toNat_zero]
    refine Ret.at (spec_l03Small_c h ha ⟨by omega, by omega⟩ (by omega)) ?_
    rintro v w2 ⟨p1, n1, c1, hv, o1, y2⟩
    subst hv
    have Z0 := Int.emod_nonneg (val a) (show b.getD 0 0 ≠ 0 by omega)
    have Z1 := Int.emod_lt_of_pos (val a) (show 0 < b.getD 0 0 by omega)
    refine ⟨_, _, _, _, rfl, ?_⟩
    refine Ret.at (spec_NatOf_c Z0 (by omega)) ?_
    rintro v w3 ⟨p2, n2, c2, hv, o2, y3⟩
    subst hv
    exact ⟨_, _, _, rfl, _, _, _, _, _, _, rfl, (o1.ext y3).ints, o2.ints, y2.trans y3⟩
  · refine ⟨⟨by omega, by omega, by omega⟩, ?_⟩
    intro r w1 hn1 r1 w2 hn2
    have e1 := hn1.r_eq; have e2 := hn2.r_eq; have s1 := hn1.size
    have x2 := hn1.ext.trans hn2.ext
    have hb1 := hn1.blk
    rw [zeroRow_int, Nat.mul_one] at hb1
    refine exW ⟨by omega, by omega⟩ ⟨fun rp rn rc i wr => ∃ (s : Nat) (o : List Int) (R : Int), i = (s : Int) - 1 ∧ s ≤ n ∧ o.length = n ∧ Blk wr r T_int (o.map (Value.int .i64)) ∧ Ext w wr ∧ Limbs o ∧ (∀ z, z < s → o.getD z 0 = 0) ∧ 0 ≤ R ∧ R < val b ∧ IntsR wr rp rn rc (digs R.toNat) ∧ (∀ z, rp.map (·.block) = some z → z ≠ r) ∧ val (a.drop s) = val b * val (o.drop s) + R, fun _ _ _ i _ => (i + 1).toNat,
      ⟨n, List.replicate n 0, 0, rfl, by omega, by simp, by simpa using hb1.ext hn2.ext, x2, Limbs.zeros _, fun z hz => by simp [List.getD_eq_getElem?_getD, hz], by omega, by omega, ?_, ?_, by rw [List.drop_of_length_le (by omega), List.drop_of_length_le (by simp)]; simp [val]⟩, ?_⟩
    · simp only [Int.toNat_zero, digs_zero]; exact (Own.fresh hn2).ints
    · intro z hz; simp at hz; omega
    intro junk wr rp rn rc i ⟨s, o, R, hi, hsn, hol, hblk, hx, hlo, hoz, hR0, hR1, hR, hRb, hv⟩
    subst hi
    have lx := hx.le
    refine ifD (fun hpos => ?_) (fun hend => ?_)
    · obtain ⟨t, rfl⟩ : ∃ t, s = t + 1 := ⟨s - 1, by omega⟩
      have A := ha.getD t
      have ei : ((t + 1 : Nat) : Int) - 1 = (t : Int) := by omega
      rw [ei]
      obtain ⟨ad, rfl, hl⟩ := ints_at (h.ext hx) (i := (t : Int)) (by omega) (by omega)
      simp only [Int.toNat_natCast] at hl ⊢
      refine ⟨⟨by omega, by omega⟩, _, hl, ?_⟩
      intro r2 w3 hn3
      have e3 := hn3.r_eq
      have lR : (digs R.toNat).length ≤ m := by
        have hbl := val_lt hb.1
        rw [hlb] at hbl
        exact digs_lenI hR0 (by omega)
      have lR2 := hR.1
      obtain ⟨p4, c4, w4, ap, o4, x4⟩ := Own.appendI (w := w3) (base := wr.heap.size) (p := some ⟨r2, 0, none⟩) (n := 1) (c := 1) (zs := [a.getD t 0]) (Own.of_blk hn3.blk (by omega) rfl (by simp only [maxLen]; omega)) hn3.ext.le (hR.ext hn3.ext) (by omega)
      refine ⟨_, _, _, _, ap, ?_⟩
      have X4 : Ext wr w4 := x4 wr hn3.ext (Nat.le_refl _)
      have hlim4 : Limbs ([a.getD t 0] ++ digs R.toNat) := Limbs.append.2 ⟨Limbs.cons.2 ⟨A, Limbs.nil⟩, digs_limbs _⟩
      have hval4 : val ([a.getD t 0] ++ digs R.toNat) = a.getD t 0 + 1000000000 * R := by
        rw [List.singleton_append, val, val_digsI hR0]
      refine Ret.at (spec_l02Trim_c o4.ints) ?_
      rintro v w5 ⟨hv5, hw5, hr5⟩
      subst hv5; subst hw5
      rw [trimL_eq hlim4, hval4] at hr5 ⊢
      have hN0 : 0 ≤ a.getD t 0 + 1000000000 * R := by omega
      have hN1 : a.getD t 0 + 1000000000 * R < 1000000000 * val b := by omega
      generalize hN : a.getD t 0 + 1000000000 * R = N at hr5 hN0 hN1
      have hNv := val_digsI hN0
      have hNl : (digs N.toNat).length ≤ m + 1 := by
        refine digs_lenI hN0 ?_
        have hbl := val_lt hb.1
        rw [hlb] at hbl
        rw [Int.pow_succ]; omega
      refine ⟨_, _, _, rfl, ?_⟩
      have p4b : ∀ z, p4.map (·.block) = some z → z ≠ r := fun z hz e => by
        have := (World.ownsRow.lt o4 z (by rw [← hz]; cases p4 <;> rfl)).1
        have := hblk.lt
        omega
      refine Ret.at (spec_l02Cmp_c hr5 (k.ext (hx.trans X4))) ?_
      rintro v w6 ⟨hv6, y6⟩
      subst hv6
      have hc := cmpL_val (digs_canon N.toNat) hb
      rw [hNv] at hc
      have ea : a.drop t = a.getD t 0 :: a.drop (t + 1) := by
        rw [List.drop_eq_getElem_cons (by omega), List.getD_eq_getElem?_getD, List.getElem?_eq_getElem (by omega)]; rfl
      have eo : ∀ x : Int, (o.set t x).drop t = x :: o.drop (t + 1) := fun x => by
        rw [List.drop_eq_getElem_cons (by simp; omega), List.getElem_set_self, List.drop_set_of_lt (by omega)]
      have hstep : ∀ x : Int, val (a.drop t) = val b * val (x :: o.drop (t + 1)) + (N - val b * x) := fun x => by
        rw [ea, val, val, hv, Int.mul_add (val b)]
        have : val b * (1000000000 * val (o.drop (t + 1))) = 1000000000 * (val b * val (o.drop (t + 1))) := by rw [Int.mul_left_comm]
        omega
      have es : o.drop t = 0 :: o.drop (t + 1) := by
        have := hoz t (by omega)
        rw [List.drop_eq_getElem_cons (by omega)]
        rw [List.getD_eq_getElem?_getD, List.getElem?_eq_getElem (by omega)] at this
        simp only [Option.getD_some] at this
        rw [this]
      refine ⟨_, rfl, ifD (fun hless => ?_) (fun hnot => ?_)⟩
      · unfold spec_l03Div_j0
        have X6 := X4.trans y6
        refine exW ⟨by omega, by omega⟩ ⟨⟨t, o, N, by omega, by omega, hol, hblk.ext X6, hx.trans X6, hlo, fun z hz => hoz z (by omega), hN0, by rcases hc with h | h | h <;> omega, hr5.ext y6, p4b, ?_⟩, ?_⟩
        · rw [es, hstep 0, Int.mul_zero, Int.sub_zero]
        · show ((t : Int) - 1 + 1).toNat < ((t : Int) + 1).toNat
          omega
      · have X6 := X4.trans y6
        refine Ret.at (spec_l03Digit_c (hr5.ext y6) (k.ext (hx.trans X6)) (digs_canon _) hb hb0 hm (by rw [hNv]; exact hN1)) ?_
        rintro v w7 ⟨hv7, y7⟩
        subst hv7
        rw [hNv]
        have Q0 : 0 ≤ N / val b := Int.ediv_nonneg hN0 (by omega)
        have Q1 : N / val b < 1000000000 := Int.ediv_lt_of_lt_mul vb0 (by omega)
        have QE := Int.mul_ediv_add_emod N (val b)
        have QM0 := Int.emod_nonneg N (show val b ≠ 0 by omega)
        have QM1 := Int.emod_lt_of_pos N vb0
        generalize N / val b = x at Q0 Q1 QE
        have X7 := X6.trans y7
        have hblk7 := hblk.ext X7
        obtain ⟨w8, st, hb8, ch8, sz8⟩ := blk_set hblk7 (i := (t : Int)) (by omega) (by omega) x
        simp only [Int.toNat_natCast] at st hb8
        have x8 : Ext w w8 := (hx.trans X7).chg ch8 (by simp; omega)
        refine ⟨_, rfl, ⟨by omega, by omega⟩, w8, st, ?_⟩
        refine Ret.at (spec_NatOf_c Q0 (by omega)) ?_
        rintro v w9 ⟨p9, n9, c9, hv, o9, y9⟩
        subst hv
        refine ⟨_, _, _, rfl, ?_⟩
        have ln9 : n9 ≤ 1 := by
          have e := o9.len
          have := digs_lenI (z := x) (k := 1) (by omega) (by rw [show (1000000000 : Int) ^ 1 = 1000000000 from rfl]; omega)
          simp only [List.length_map] at e
          omega
        refine Ret.at (spec_l02Mul_c (k.ext (x8.trans y9)) o9.ints hb.1 (digs_limbs _) (by omega) (by omega)) ?_
        rintro v w10 ⟨p10, n10, c10, hv, o10, y10⟩
        subst hv
        refine ⟨_, _, _, rfl, ?_⟩
        rw [val_digsI Q0] at o10
        have M0 : 0 ≤ val b * x := Int.mul_nonneg (by omega) Q0
        have hr8 := ((hr5.ext (y6.trans y7)).chg ch8 (fun z hz hm => p4b z hz (by simpa using hm))).ext (y9.trans y10)
        have hle : (digs (val b * x).toNat).length ≤ (digs N.toNat).length := by
          refine digs_lenI M0 ?_
          have := val_lt (digs_limbs N.toNat)
          rw [hNv] at this
          omega
        have l10 := o10.len
        simp only [List.length_map] at l10
        refine Ret.at (spec_l02Sub_o hr8 o10.ints (digs_limbs _) (digs_limbs _) (by omega) (by omega) (by rw [hNv, val_digsI M0]; omega)) ?_
        rintro v w11 ⟨p11, n11, c11, hv, o11, y11⟩
        subst hv
        rw [hNv, val_digsI M0] at o11
        refine ⟨_, _, _, rfl, ?_⟩
        unfold spec_l03Div_j0
        have X11 := y9.trans (y10.trans y11)
        refine exW ⟨by omega, by omega⟩ ⟨⟨t, o.set t x, N - val b * x, by omega, by omega, by simpa using hol, hb8.ext X11, x8.trans X11, hlo.set ⟨Q0, Q1⟩, fun z hz => by rw [getD_set_ne _ (by omega)]; exact hoz z (by omega), by omega, by omega, o11.ints, ?_, ?_⟩, ?_⟩
        · intro z hz e
          have := (World.ownsRow.lt o11 z (by rw [← hz]; cases p11 <;> rfl)).1
          have := hblk7.lt; have := y9.le; have := y10.le
          omega
        · rw [eo, hstep x]
        · show ((t : Int) - 1 + 1).toNat < ((t : Int) + 1).toNat
          omega
    · have hs0 : s = 0 := by omega
      subst hs0
      simp only [List.drop_zero] at hv
      have hown : Own wr w.heap.size T_int 1 (some ⟨r, 0, none⟩) n n (o.map (Value.int .i64)) := Own.of_blk hblk (by omega) (by simp [hol]) (by simp only [maxLen]; omega)
      refine Ret.at (spec_l02Trim_c hown.ints) ?_
      rintro v w4 ⟨hv4, hw4, hr4⟩
      subst hv4; subst hw4
      have e1 : val a / val b = val o := by rw [hv, Int.mul_comm, Int.add_comm, Int.add_mul_ediv_right _ _ (by omega), Int.ediv_eq_zero_of_lt hR0 hR1, Int.zero_add]
      have e2 : val a % val b = R := by rw [hv, Int.mul_comm, Int.add_comm, Int.add_mul_emod_self_right, Int.emod_eq_of_lt hR0 hR1]
      rw [trimL_eq hlo] at hr4 ⊢
      refine ⟨_, _, _, rfl, _, _, _, _, _, _, rfl, by rw [e1]; exact hr4, by rw [e2]; exact hR, hx⟩
end Go.Proofs.YtpaekkcgphljoaaGreatDoor

namespace Go.Proofs.YtpaekkcgphljoaaGreatDoor
open Go Go.Proofs.YtpaekkcgphljoaaGreatDoor.Sx
set_option linter.unusedVariables false
set_option linter.unusedSimpArgs false
theorem emod_toNat (x y : Nat) : (((x : Int) % (y : Int)).toNat) = x % y := by
  rw [← Int.natCast_emod]; exact Int.toNat_natCast _
theorem ediv_toNat (x y : Nat) : (((x : Int) / (y : Int)).toNat) = x / y := by
  rw [← Int.natCast_ediv]; exact Int.toNat_natCast _
theorem digs_mono_len {x y : Nat} (h : x ≤ y) : (digs x).length ≤ (digs y).length := by
  refine digs_len _ ?_
  have h1 := val_lt (digs_limbs y)
  rw [val_digs] at h1
  have : ((y : Nat) : Int) < ((1000000000 ^ (digs y).length : Nat) : Int) := by simpa using h1
  exact Nat.lt_of_le_of_lt h (Int.ofNat_lt.1 this)
theorem digs_one : digs 1 = [1] := by rw [digs_pos (by decide)]; simp [digs_zero]
end Go.Proofs.YtpaekkcgphljoaaGreatDoor

namespace Go.Proofs.YtpaekkcgphljoaaGreatDoor
open Go Go.Proofs.YtpaekkcgphljoaaGreatDoor.Sx
set_option linter.unusedVariables false
set_option linter.unusedSimpArgs false
/-- a decimal number that is not negative -/
def dnn (m : Nat) (s : Int) : List D0 := [.bool false, .ints (digs m), .int s]
theorem inn_ok {m : Nat} (h : (digs m).length ≤ 50) : intOk [.bool false, .ints (digs m)] = true := by
  simp only [intOk, natOk_spec.2 ⟨digs_canon m, h⟩, Bool.not_false, Bool.true_or, Bool.and_self]
theorem dnn_ok {m : Nat} {s : Int} (h : (digs m).length ≤ 6) (hs : 0 ≤ s ∧ s ≤ 30) : decOk (dnn m s) = true := by
  simp only [decOk, dnn, inn_ok (show (digs m).length ≤ 50 by omega), decide_eq_true h, decide_eq_true hs, Bool.and_self]
theorem impl_decOf_c {w : World} {B : Nat} {xs : List Value} {m : Nat} {s : Int} {f : List Nat} (h : Owns w B xs [.bool false, .ints (digs m)] f) (hm : (digs m).length ≤ 6) (hs : 0 ≤ s ∧ s ≤ 30) :
    Ret P n_impl_decOf [.agg ⟨xs⟩, .int .i64 s] w fun v w' => ∃ vs, v = .tuple #[.agg ⟨vs⟩, .bool true] ∧ Owns w' B vs (dnn m s) f ∧ Ext w w' := by
  have ho := h
  obtain ⟨a0, ap, an, ac, az, rfl, hd, ha⟩ := open_Signed h.reps rfl
  simp only [List.cons.injEq, D0.bool.injEq, D0.ints.injEq, and_true] at hd
  obtain ⟨rfl, rfl⟩ := hd
  refine impl_decOf_ret ?_
  unfold impl_decOf
  intro r w1 hn1 r1 w2 hn2
  have k1 := hn1.blk.ext hn2.ext
  refine ⟨_, _, _, _, k1.loadA0 (by kernel_rfl), ?_⟩
  intro r2 w3 hn3
  have e1 := hn1.r_eq; have e2 := hn2.r_eq; have z1 := hn1.size
  obtain ⟨w4, st4, hb4, y4⟩ := hn3.fill (P := P) (t := T_impl_Dec) (xs := [.bool false, .slice ap an ac, .int .i64 s]) (by simp [Value.oneCell']) (by kernel_rfl) rfl
  have X := (hn1.ext.trans hn2.ext).trans y4
  refine ⟨w4, st4, _, _, _, _, _, hb4.loadA0 (by kernel_rfl), ?_⟩
  have hm' : Reps w4 [.bool false, .slice ap an ac, .int .i64 s] (dnn m s) := ⟨rfl, ⟨_, _, _, rfl, ha.ext X⟩, rfl, trivial⟩
  refine Ret.at (impl_DecOk_c hm' rfl) ?_
  rintro v w5 ⟨hv, y5⟩
  subst hv
  rw [dnn_ok hm hs]
  obtain ⟨w6, st6, hb6, ch, sz⟩ := ((hn2.blk.ext y4).ext y5).storeA0 (P := P) (t := T_impl_Dec) (xs := [.bool false, .slice ap an ac, .int .i64 s]) (by kernel_rfl) rfl (by simp [Value.oneCell'])
  have Z : Ext w w6 := (X.trans y5).chg ch (by simp; omega)
  have ho6 : Owns w6 B [.bool false, .slice ap an ac, .int .i64 s] (dnn m s) f := by
    have := Owns.append (ho.ext Z) (Owns.int w6 B s)
    rwa [List.append_nil] at this
  exact ⟨_, rfl, ifT ⟨_, _, _, _, _, (hb4.ext y5).loadA0 (by kernel_rfl), w6, st6, _, _, _, _, _, hb6.loadA0 (by kernel_rfl), [.bool false, .slice ap an ac, .int .i64 s], rfl, ho6, Z⟩⟩
theorem spec_l07Dec_c {w : World} {B : Nat} {xs : List Value} {m : Nat} {s : Int} {f : List Nat} (h : Owns w B xs [.bool false, .ints (digs m)] f) (hm : (digs m).length ≤ 6) (hs : 0 ≤ s ∧ s ≤ 30) :
    Ret P n_spec_l07Dec [.agg ⟨xs⟩, .int .i64 s] w fun v w' => ∃ vs, v = .tuple #[.agg ⟨vs⟩, .bool true] ∧ Owns w' B vs (dnn m s) f ∧ Ext w w' := by
  have ho := h
  obtain ⟨a0, ap, an, ac, az, rfl, hd, ha⟩ := open_Signed h.reps rfl
  simp only [List.cons.injEq, D0.bool.injEq, D0.ints.injEq, and_true] at hd
  obtain ⟨rfl, rfl⟩ := hd
  refine spec_l07Dec_ret ?_
  unfold spec_l07Dec
  intro r w1 hn1 r1 w2 hn2
  have k1 := hn1.blk.ext hn2.ext
  refine ⟨_, _, _, _, k1.loadA0 (by kernel_rfl), ?_⟩
  intro r2 w3 hn3
  have e1 := hn1.r_eq; have e2 := hn2.r_eq; have z1 := hn1.size
  obtain ⟨w4, st4, hb4, y4⟩ := hn3.fill (P := P) (t := T_impl_Dec) (xs := [.bool false, .slice ap an ac, .int .i64 s]) (by simp [Value.oneCell']) (by kernel_rfl) rfl
  have X := (hn1.ext.trans hn2.ext).trans y4
  refine ⟨w4, st4, _, _, _, _, _, hb4.loadA0 (by kernel_rfl), ?_⟩
  have hm' : Reps w4 [.bool false, .slice ap an ac, .int .i64 s] (dnn m s) := ⟨rfl, ⟨_, _, _, rfl, ha.ext X⟩, rfl, trivial⟩
  refine Ret.at (spec_DecOk_c hm' rfl) ?_
  rintro v w5 ⟨hv, y5⟩
  subst hv
  rw [dnn_ok hm hs]
  obtain ⟨w6, st6, hb6, ch, sz⟩ := ((hn2.blk.ext y4).ext y5).storeA0 (P := P) (t := T_impl_Dec) (xs := [.bool false, .slice ap an ac, .int .i64 s]) (by kernel_rfl) rfl (by simp [Value.oneCell'])
  have Z : Ext w w6 := (X.trans y5).chg ch (by simp; omega)
  have ho6 : Owns w6 B [.bool false, .slice ap an ac, .int .i64 s] (dnn m s) f := by
    have := Owns.append (ho.ext Z) (Owns.int w6 B s)
    rwa [List.append_nil] at this
  exact ⟨_, rfl, ifN (fun hh => absurd hh (by simp)) (fun _ => ⟨_, _, _, _, _, (hb4.ext y5).loadA0 (by kernel_rfl), w6, st6, _, _, _, _, _, hb6.loadA0 (by kernel_rfl), [.bool false, .slice ap an ac, .int .i64 s], rfl, ho6, Z⟩)⟩
theorem own_out {w : World} {B : Nat} {e : TypeId} {size : Nat} {p : Option Addr} {n c : Nat} {xs : List Value} (h : Own w B e size p n c xs) : ∀ b, p.map (·.block) = some b → B ≤ b := fun b hb =>
  (World.ownsRow.lt h b (by cases p <;> simp_all [Value.ownBlock])).1
theorem imul_nn {m k : Nat} (hm : (digs m).length ≤ 50) (hk : (digs k).length ≤ 50) (h : (digs (m * k)).length ≤ 50) : imul [.bool false, .ints (digs m)] [.bool false, .ints (digs k)] = [.bool false, .ints (digs (m * k))] := by
  have e : ((m : Int) * (k : Int)) = ((m * k : Nat) : Int) := by rw [Int.natCast_mul]
  rw [imul, inn_ok hm, inn_ok hk, ← enc_nat m, ← enc_nat k, ival_enc, ival_enc, e, icap_fit (by rw [Int.natAbs_natCast]; exact h), enc_nat]
  rfl
theorem impl_intMul_n {w : World} {xs ys : List Value} {m k : Nat} (h : Reps w xs [.bool false, .ints (digs m)]) (g : Reps w ys [.bool false, .ints (digs k)]) (hm : (digs m).length ≤ 50) (hk : (digs k).length ≤ 50) :
    Ret P n_impl_intMul [.agg ⟨xs⟩, .agg ⟨ys⟩] w fun v w' => ∃ vs f, v = .agg ⟨vs⟩ ∧ Owns w' w.heap.size vs [.bool false, .ints (digs (m * k))] f ∧ Ext w w' := by
  obtain ⟨a0, ap, an, ac, az, rfl, hd, ha⟩ := open_Signed h rfl
  simp only [List.cons.injEq, D0.bool.injEq, D0.ints.injEq, and_true] at hd
  obtain ⟨rfl, rfl⟩ := hd
  obtain ⟨b0, bp, bn, bc, bz, rfl, hd, hb⟩ := open_Signed g rfl
  simp only [List.cons.injEq, D0.bool.injEq, D0.ints.injEq, and_true] at hd
  obtain ⟨rfl, rfl⟩ := hd
  have la := ha.1; have lb := hb.1
  refine impl_intMul_ret ?_
  unfold impl_intMul
  intro r w1 hn1 r1 w2 hn2 r2 w3 hn3
  have e1 := hn1.r_eq; have e2 := hn2.r_eq; have e3 := hn3.r_eq; have z1 := hn1.size; have z2 := hn2.size; have z3 := hn3.size
  have D := Ext.drew w3
  have X := ((hn1.ext.trans hn2.ext).trans hn3.ext).trans D
  have q0 := ((hn1.blk.ext hn2.ext).ext hn3.ext).ext D
  have q1 := (hn2.blk.ext hn3.ext).ext D
  have q2 := hn3.blk.ext D
  have lD := D.le
  refine ⟨_, fun W hW => (q0.ext hW).loadAt 0 rfl (by kernel_rfl) rfl, _, fun W hW => (q1.ext hW).loadAt 0 rfl (by kernel_rfl) rfl, _, _, _, fun W hW => (q0.ext hW).loadAt 1 rfl (by kernel_rfl) rfl, _, _, _, fun W hW => (q1.ext hW).loadAt 1 rfl (by kernel_rfl) rfl, ?_⟩
  refine Ret.at (impl_natMul_c (ha.ext X) (hb.ext X) (digs_limbs m) (digs_limbs k) (by omega) (by omega)) ?_
  rintro v w4 ⟨p', n', c', hv, ho, y4⟩
  subst hv
  have e : (val (digs m) * val (digs k)).toNat = m * k := by rw [val_digs, val_digs, ← Int.natCast_mul, Int.toNat_natCast]
  rw [e] at ho
  refine ⟨_, _, _, rfl, y4, ?_⟩
  refine Ret.at (impl_signed_c (neg := !(false == false)) ho.ints.1) ?_
  rintro v w5 ⟨hv, y5⟩
  subst hv
  obtain ⟨w6, st6, hb6, ch, sz⟩ := ((q2.ext y4).ext y5).storeA0 (P := P) (t := T_impl_Signed) (xs := [.bool ((!(false == false)) && !(digs (m * k)).isEmpty), .slice p' n' c']) (by kernel_rfl) rfl (by simp [Value.oneCell'])
  have Z : Ext w w6 := ((X.trans y4).trans y5).chg ch (by simp; omega)
  have ho6 := (ho.ext y5).chg ch (fun b hb' hm' => by
    have := own_out ho b hb'
    simp at hm'; omega)
  exact ⟨_, _, _, _, rfl, w6, st6, _, _, _, _, hb6.loadA0 (by kernel_rfl), [.bool ((!(false == false)) && !(digs (m * k)).isEmpty), .slice p' n' c'], _, rfl, Owns.int2 (b := false) (ho6.mono (by omega)), Z⟩
theorem impl_DecMul_n {w : World} {xs ys : List Value} {m k : Nat} {s t : Int} (h : Reps w xs (dnn m s)) (g : Reps w ys (dnn k t)) (hm : (digs m).length ≤ 6) (hk : (digs k).length ≤ 6) (hs : 0 ≤ s ∧ s ≤ 30) (ht : 0 ≤ t ∧ t ≤ 30) (hmk : (digs (m * k)).length ≤ 6) (hst : s + t ≤ 30) :
    Ret P n_impl_DecMul [.agg ⟨xs⟩, .agg ⟨ys⟩] w fun v w' => ∃ vs f, v = .tuple #[.agg ⟨vs⟩, .bool true] ∧ Owns w' w.heap.size vs (dnn (m * k) (s + t)) f ∧ Ext w w' := by
  have hr := h; have gr := g
  obtain ⟨a0, ap, an, ac, az, a2, rfl, hd, ha⟩ := open_Dec h rfl
  simp only [dnn, List.cons.injEq, D0.bool.injEq, D0.ints.injEq, D0.int.injEq, and_true] at hd
  obtain ⟨rfl, rfl, rfl⟩ := hd
  obtain ⟨b0, bp, bn, bc, bz, b2, rfl, hd, hb⟩ := open_Dec g rfl
  simp only [dnn, List.cons.injEq, D0.bool.injEq, D0.ints.injEq, D0.int.injEq, and_true] at hd
  obtain ⟨rfl, rfl, rfl⟩ := hd
  refine impl_DecMul_ret ?_
  unfold impl_DecMul
  intro r w1 hn1 r1 w2 hn2 r2 w3 hn3
  have e1 := hn1.r_eq; have e2 := hn2.r_eq; have e3 := hn3.r_eq; have z1 := hn1.size; have z2 := hn2.size; have z3 := hn3.size
  have X := (hn1.ext.trans hn2.ext).trans hn3.ext
  have q0 := (hn1.blk.ext hn2.ext).ext hn3.ext
  have q1 := hn2.blk.ext hn3.ext
  refine ⟨_, _, _, _, _, q0.loadA0 (by kernel_rfl), ?_⟩
  refine Ret.at (impl_DecOk_c (hr.ext X) rfl) ?_
  rintro v w4 ⟨hv, y4⟩
  subst hv
  rw [dnn_ok hm hs]
  refine ⟨_, rfl, ifN (fun hh => absurd hh (by simp)) (fun _ => ⟨_, _, _, _, _, (q1.ext y4).loadA0 (by kernel_rfl), ?_⟩)⟩
  refine Ret.at (impl_DecOk_c (gr.ext (X.trans y4)) rfl) ?_
  rintro v w5 ⟨hv, y5⟩
  subst hv
  rw [dnn_ok hk ht]
  refine ⟨_, rfl, ifN (fun hh => absurd hh (by simp)) (fun _ => ?_)⟩
  unfold impl_DecMul_j0
  have D := Ext.drew w5
  have Y := (y4.trans y5).trans D
  have X5 := X.trans Y
  have lY := Y.le
  have q0 := q0.ext Y; have q1 := q1.ext Y; have q2 := hn3.blk.ext Y
  refine ⟨_, _, _, _, fun W hW => (q0.ext hW).loadAAt 0 [.bool false, .slice ap an ac] rfl (by kernel_rfl) rfl, _, _, _, _, fun W hW => (q1.ext hW).loadAAt 0 [.bool false, .slice bp bn bc] rfl (by kernel_rfl) rfl, ?_⟩
  have h1 : Reps w5.drew [.bool false, .slice ap an ac] [.bool false, .ints (digs m)] := ⟨rfl, ⟨_, _, _, rfl, ha.ext X5⟩, trivial⟩
  have h2 : Reps w5.drew [.bool false, .slice bp bn bc] [.bool false, .ints (digs k)] := ⟨rfl, ⟨_, _, _, rfl, hb.ext X5⟩, trivial⟩
  refine Ret.at (impl_intMul_n h1 h2 (by omega) (by omega)) ?_
  rintro v w6 ⟨vs6, f6, hv, ho6, y6⟩
  subst hv
  have hp6 := ho6.reps
  obtain ⟨c0, cp, cn, cc, cz, rfl, _, _⟩ := open_Signed hp6 rfl
  refine ⟨_, _, _, _, rfl, y6, _, fun W hW => (q0.ext hW).loadAt 2 rfl (by kernel_rfl) rfl, _, fun W hW => (q1.ext hW).loadAt 2 rfl (by kernel_rfl) rfl, exW ⟨by omega, by omega⟩ ?_⟩
  refine Ret.at (impl_decOf_c ho6 hmk ⟨by omega, by omega⟩) ?_
  rintro v w7 ⟨vs7, hv, ho7, y7⟩
  subst hv
  have hp7 := ho7.reps
  obtain ⟨d0, dp, dn, dc, dz, ds, rfl, _, _⟩ := open_Dec hp7 rfl
  obtain ⟨w8, st8, hb8, ch, sz⟩ := ((q2.ext y6).ext y7).storeA0 (P := P) (t := T_impl_Dec) (xs := [.bool d0, .slice dp dn dc, .int .i64 ds]) (by kernel_rfl) rfl (by simp [Value.oneCell'])
  have Z : Ext w w8 := ((X5.trans y6).trans y7).chg ch (by simp; omega)
  exact ⟨_, _, _, _, _, _, rfl, w8, st8, _, _, _, _, _, hb8.loadA0 (by kernel_rfl), [.bool d0, .slice dp dn dc, .int .i64 ds], _, rfl, (ho7.chg1 ch (by omega)).mono (by omega), Z⟩
theorem spec_DecMul_n {w : World} {xs ys : List Value} {m k : Nat} {s t : Int} (h : Reps w xs (dnn m s)) (g : Reps w ys (dnn k t)) (hm : (digs m).length ≤ 6) (hk : (digs k).length ≤ 6) (hs : 0 ≤ s ∧ s ≤ 30) (ht : 0 ≤ t ∧ t ≤ 30) (hmk : (digs (m * k)).length ≤ 6) (hst : s + t ≤ 30) :
    Ret P n_spec_DecMul [.agg ⟨xs⟩, .agg ⟨ys⟩] w fun v w' => ∃ vs f, v = .tuple #[.agg ⟨vs⟩, .bool true] ∧ Owns w' w.heap.size vs (dnn (m * k) (s + t)) f ∧ Ext w w' := by
  have hr := h; have gr := g
  obtain ⟨a0, ap, an, ac, az, a2, rfl, hd, ha⟩ := open_Dec h rfl
  simp only [dnn, List.cons.injEq, D0.bool.injEq, D0.ints.injEq, D0.int.injEq, and_true] at hd
  obtain ⟨rfl, rfl, rfl⟩ := hd
  obtain ⟨b0, bp, bn, bc, bz, b2, rfl, hd, hb⟩ := open_Dec g rfl
  simp only [dnn, List.cons.injEq, D0.bool.injEq, D0.ints.injEq, D0.int.injEq, and_true] at hd
  obtain ⟨rfl, rfl, rfl⟩ := hd
  refine spec_DecMul_ret ?_
  unfold spec_DecMul
  intro r w1 hn1 r1 w2 hn2 r2 w3 hn3
  have e1 := hn1.r_eq; have e2 := hn2.r_eq; have e3 := hn3.r_eq; have z1 := hn1.size; have z2 := hn2.size; have z3 := hn3.size
  have X := (hn1.ext.trans hn2.ext).trans hn3.ext
  have q0 := (hn1.blk.ext hn2.ext).ext hn3.ext
  have q1 := hn2.blk.ext hn3.ext
  refine ⟨_, _, _, _, _, q0.loadA0 (by kernel_rfl), ?_⟩
  refine Ret.at (spec_DecOk_c (hr.ext X) rfl) ?_
  rintro v w4 ⟨hv, y4⟩
  subst hv
  rw [dnn_ok hm hs]
  refine ⟨_, rfl, ifN (fun hh => absurd hh (by simp)) (fun _ => ⟨_, _, _, _, _, (q1.ext y4).loadA0 (by kernel_rfl), ?_⟩)⟩
  refine Ret.at (spec_DecOk_c (gr.ext (X.trans y4)) rfl) ?_
  rintro v w5 ⟨hv, y5⟩
  subst hv
  rw [dnn_ok hk ht]
  refine ⟨_, rfl, ifN (fun hh => absurd hh (by simp)) (fun _ => ?_)⟩
  unfold spec_DecMul_j0
  have D := Ext.drew w5
  have Y := (y4.trans y5).trans D
  have X5 := X.trans Y
  have lY := Y.le
  have q0 := q0.ext Y; have q1 := q1.ext Y; have q2 := hn3.blk.ext Y
  refine ⟨_, _, _, _, fun W hW => (q0.ext hW).loadAAt 0 [.bool false, .slice ap an ac] rfl (by kernel_rfl) rfl, _, _, _, _, fun W hW => (q1.ext hW).loadAAt 0 [.bool false, .slice bp bn bc] rfl (by kernel_rfl) rfl, ?_⟩
  have h1 : Reps w5.drew [.bool false, .slice ap an ac] [.bool false, .ints (digs m)] := ⟨rfl, ⟨_, _, _, rfl, ha.ext X5⟩, trivial⟩
  have h2 : Reps w5.drew [.bool false, .slice bp bn bc] [.bool false, .ints (digs k)] := ⟨rfl, ⟨_, _, _, rfl, hb.ext X5⟩, trivial⟩
  refine Ret.at (spec_IntMul_c h1 h2 rfl rfl) ?_
  rintro v w6 ⟨vs6, f6, hv, ho6, _, y6⟩
  subst hv
  rw [imul_nn (by omega) (by omega) (by omega)] at ho6
  have hp6 := ho6.reps
  obtain ⟨c0, cp, cn, cc, cz, rfl, _, _⟩ := open_Signed hp6 rfl
  refine ⟨_, _, _, _, rfl, y6, _, fun W hW => (q0.ext hW).loadAt 2 rfl (by kernel_rfl) rfl, _, fun W hW => (q1.ext hW).loadAt 2 rfl (by kernel_rfl) rfl, exW ⟨by omega, by omega⟩ ?_⟩
  refine Ret.at (spec_l07Dec_c ho6 hmk ⟨by omega, by omega⟩) ?_
  rintro v w7 ⟨vs7, hv, ho7, y7⟩
  subst hv
  have hp7 := ho7.reps
  obtain ⟨d0, dp, dn, dc, dz, ds, rfl, _, _⟩ := open_Dec hp7 rfl
  obtain ⟨w8, st8, hb8, ch, sz⟩ := ((q2.ext y6).ext y7).storeA0 (P := P) (t := T_impl_Dec) (xs := [.bool d0, .slice dp dn dc, .int .i64 ds]) (by kernel_rfl) rfl (by simp [Value.oneCell'])
  have Z : Ext w w8 := ((X5.trans y6).trans y7).chg ch (by simp; omega)
  exact ⟨_, _, _, _, _, _, rfl, w8, st8, _, _, _, _, _, hb8.loadA0 (by kernel_rfl), [.bool d0, .slice dp dn dc, .int .i64 ds], _, rfl, (ho7.chg1 ch (by omega)).mono (by omega), Z⟩
end Go.Proofs.YtpaekkcgphljoaaGreatDoor

namespace Go.Proofs.YtpaekkcgphljoaaGreatDoor
open Go Go.Proofs.YtpaekkcgphljoaaGreatDoor.Sx
set_option linter.unusedVariables false
set_option linter.unusedSimpArgs false
/-- where a number's limbs lie is no struct of zeros: a store there leaves it -/
theorem IntsR.store3 {w w' : World} {r : Nat} {e : TypeId} {p : Option Addr} {n c m : Nat} (hb : Blk w r e [.bool false, .slice none 0 0, .int .i64 0]) (h : IntsR w p n c (digs m)) (ch : Chg [r] w w') : IntsR w' p n c (digs m) := by
  refine ⟨h.1, h.2.1, h.2.2.1, fun hn => ?_⟩
  obtain ⟨b, off, hp, hs⟩ := h.2.2.2 hn
  refine ⟨b, off, hp, hs.chg ch ?_⟩
  intro hm
  simp at hm
  subst hm
  have hl := h.1
  have hx := digs_last m
  rw [List.getLast?_eq_getElem?, hl] at hx
  have hlt : n - 1 < (digs m).length := by omega
  rw [List.getElem?_eq_getElem hlt] at hx
  have h1 := hs (n - 1) (.int .i64 ((digs m)[n - 1]'hlt)) (by simp [List.getElem?_eq_getElem hlt])
  rw [hb.cell] at h1
  generalize off + (n - 1) = i at h1
  match i, h1 with
  | 0, h1 => simp at h1
  | 1, h1 => simp at h1
  | 2, h1 =>
    simp at h1
    exact hx (by rw [← h1])
  | i + 3, h1 => simp at h1
theorem digs_pos_len {m : Nat} : 0 < (digs m).length ↔ m ≠ 0 := by
  constructor
  · intro h e
    rw [e, digs_zero] at h
    simp at h
  · intro h
    rw [digs_pos h]
    simp
theorem digs_div_len {m k : Nat} (h : (digs m).length ≤ 6) : (digs (m / k)).length ≤ 6 := Nat.le_trans (digs_mono_len (Nat.div_le_self m k)) h
theorem val_div (m k : Nat) : (val (digs m) / val (digs k)).toNat = m / k := by rw [val_digs, val_digs]; exact ediv_toNat m k
theorem val_mod (m k : Nat) : (val (digs m) % val (digs k)).toNat = m % k := by rw [val_digs, val_digs]; exact emod_toNat m k
theorem spec_l07Dec_r {w : World} {xs : List Value} {m : Nat} {s : Int} (h : Reps w xs [.bool false, .ints (digs m)]) (hm : (digs m).length ≤ 6) (hs : 0 ≤ s ∧ s ≤ 30) :
    Ret P n_spec_l07Dec [.agg ⟨xs⟩, .int .i64 s] w fun v w' => ∃ vs, v = .tuple #[.agg ⟨vs⟩, .bool true] ∧ Reps w' vs (dnn m s) ∧ Ext w w' := by
  obtain ⟨a0, ap, an, ac, az, rfl, hd, ha⟩ := open_Signed h rfl
  simp only [List.cons.injEq, D0.bool.injEq, D0.ints.injEq, and_true] at hd
  obtain ⟨rfl, rfl⟩ := hd
  refine spec_l07Dec_ret ?_
  unfold spec_l07Dec
  intro r w1 hn1 r1 w2 hn2
  have k1 := hn1.blk.ext hn2.ext
  refine ⟨_, _, _, _, k1.loadA0 (by kernel_rfl), ?_⟩
  intro r2 w3 hn3
  have e1 := hn1.r_eq; have e2 := hn2.r_eq; have z1 := hn1.size
  obtain ⟨w4, st4, hb4, y4⟩ := hn3.fill (P := P) (t := T_impl_Dec) (xs := [.bool false, .slice ap an ac, .int .i64 s]) (by simp [Value.oneCell']) (by kernel_rfl) rfl
  have X := (hn1.ext.trans hn2.ext).trans y4
  refine ⟨w4, st4, _, _, _, _, _, hb4.loadA0 (by kernel_rfl), ?_⟩
  have hm' : Reps w4 [.bool false, .slice ap an ac, .int .i64 s] (dnn m s) := ⟨rfl, ⟨_, _, _, rfl, ha.ext X⟩, rfl, trivial⟩
  refine Ret.at (spec_DecOk_c hm' rfl) ?_
  rintro v w5 ⟨hv, y5⟩
  subst hv
  rw [dnn_ok hm hs]
  obtain ⟨w6, st6, hb6, ch, sz⟩ := ((hn2.blk.ext y4).ext y5).storeA0 (P := P) (t := T_impl_Dec) (xs := [.bool false, .slice ap an ac, .int .i64 s]) (by kernel_rfl) rfl (by simp [Value.oneCell'])
  have Z : Ext w w6 := (X.trans y5).chg ch (by simp; omega)
  exact ⟨_, rfl, ifN (fun hh => absurd hh (by simp)) (fun _ => ⟨_, _, _, _, _, (hb4.ext y5).loadA0 (by kernel_rfl), w6, st6, _, _, _, _, _, hb6.loadA0 (by kernel_rfl), [.bool false, .slice ap an ac, .int .i64 s], rfl, ⟨rfl, ⟨_, _, _, rfl, ha.ext Z⟩, rfl, trivial⟩, Z⟩)⟩
theorem spec_NatDiv_n {w : World} {p q : Option Addr} {n c n2 c2 x y : Nat} (h : IntsR w p n c (digs x)) (g : IntsR w q n2 c2 (digs y)) (hx : n ≤ 50) (hy : n2 ≤ 50) (hy0 : 0 < y) :
    Ret P n_spec_NatDiv [.slice p n c, .slice q n2 c2] w fun v w' => ∃ p1 m1 c1 p2 m2 c2, v = .tuple #[.slice p1 m1 c1, .slice p2 m2 c2] ∧ IntsR w' p1 m1 c1 (digs (x / y)) ∧ IntsR w' p2 m2 c2 (digs (x % y)) ∧ Ext w w' := by
  have l1 := h.1; have l2 := g.1
  have l3 : 0 < (digs y).length := digs_pos_len.2 (by omega)
  refine spec_NatDiv_ret ?_
  unfold spec_NatDiv
  refine Ret.at (spec_NatOk_c h) ?_
  rintro v w1 ⟨hv, y1⟩
  subst hv
  rw [natOk_spec.2 ⟨digs_canon x, by omega⟩]
  refine ⟨_, rfl, ifN (fun hh => absurd hh (by simp)) (fun _ => ?_)⟩
  refine Ret.at (spec_NatOk_c (g.ext y1)) ?_
  rintro v w2 ⟨hv, y2⟩
  subst hv
  rw [natOk_spec.2 ⟨digs_canon y, by omega⟩]
  refine ⟨_, rfl, ifN (fun hh => absurd hh (by simp)) (fun _ => ifD (fun hh => absurd hh (by omega)) (fun _ => ?_))⟩
  have X := y1.trans y2
  refine Ret.at (spec_l03Div_c (h.ext X) (g.ext X) (digs_limbs x) (digs_canon y) (by omega) (by omega) (by omega)) ?_
  rintro v w3 ⟨p1, m1, c1, p2, m2, c2, hv, i1, i2, y3⟩
  subst hv
  rw [val_div] at i1
  rw [val_mod] at i2
  exact ⟨_, _, _, _, _, _, rfl, _, _, _, _, _, _, rfl, i1, i2, X.trans y3⟩
theorem spec_NatCut_n {w : World} {p : Option Addr} {n c x k : Nat} (h : IntsR w p n c (digs x)) (hx : n ≤ 50) (hk : k ≤ 30) :
    Ret P n_spec_NatCut [.slice p n c, .int .i64 (k : Int)] w fun v w' => ∃ p1 m1 c1 p2 m2 c2, v = .tuple #[.slice p1 m1 c1, .slice p2 m2 c2] ∧ IntsR w' p1 m1 c1 (digs (x / 10 ^ k)) ∧ IntsR w' p2 m2 c2 (digs (x % 10 ^ k)) ∧ Ext w w' := by
  refine spec_NatCut_ret ?_
  unfold spec_NatCut
  refine Ret.at (spec_l01In_c (k : Int) 0 440 w) ?_
  rintro v w1 ⟨hv, hw⟩
  subst hv; subst hw
  rw [decide_eq_true (show (0 : Int) ≤ (k : Int) ∧ (k : Int) ≤ 440 by omega)]
  refine ⟨_, rfl, ifN (fun hh => absurd hh (by simp)) (fun _ => ?_)⟩
  refine Ret.at (spec_NatTen_c (k := (k : Int)) (by omega) (by omega)) ?_
  rintro v w2 ⟨p2, n2, c2, hv, ho, y2⟩
  subst hv
  rw [Int.toNat_natCast] at ho
  have hl := ho.ints.1
  have ht := ten_len hk
  refine ⟨_, _, _, rfl, ?_⟩
  refine Ret.at (spec_NatDiv_n (h.ext y2) ho.ints hx (by omega) (Nat.pow_pos (by decide))) ?_
  rintro v w3 ⟨p1, m1, c1, p3, m3, c3, hv, i1, i2, y3⟩
  subst hv
  exact ⟨_, _, _, _, _, _, rfl, _, _, _, _, _, _, rfl, i1, i2, y2.trans y3⟩
theorem impl_decOf_r {w : World} {xs : List Value} {m : Nat} {s : Int} (h : Reps w xs [.bool false, .ints (digs m)]) (hm : (digs m).length ≤ 6) (hs : 0 ≤ s ∧ s ≤ 30) :
    Ret P n_impl_decOf [.agg ⟨xs⟩, .int .i64 s] w fun v w' => ∃ vs, v = .tuple #[.agg ⟨vs⟩, .bool true] ∧ Reps w' vs (dnn m s) ∧ Ext w w' := by
  obtain ⟨a0, ap, an, ac, az, rfl, hd, ha⟩ := open_Signed h rfl
  simp only [List.cons.injEq, D0.bool.injEq, D0.ints.injEq, and_true] at hd
  obtain ⟨rfl, rfl⟩ := hd
  refine impl_decOf_ret ?_
  unfold impl_decOf
  intro r w1 hn1 r1 w2 hn2
  have k1 := hn1.blk.ext hn2.ext
  refine ⟨_, _, _, _, k1.loadA0 (by kernel_rfl), ?_⟩
  intro r2 w3 hn3
  have e1 := hn1.r_eq; have e2 := hn2.r_eq; have z1 := hn1.size
  obtain ⟨w4, st4, hb4, y4⟩ := hn3.fill (P := P) (t := T_impl_Dec) (xs := [.bool false, .slice ap an ac, .int .i64 s]) (by simp [Value.oneCell']) (by kernel_rfl) rfl
  have X := (hn1.ext.trans hn2.ext).trans y4
  refine ⟨w4, st4, _, _, _, _, _, hb4.loadA0 (by kernel_rfl), ?_⟩
  have hm' : Reps w4 [.bool false, .slice ap an ac, .int .i64 s] (dnn m s) := ⟨rfl, ⟨_, _, _, rfl, ha.ext X⟩, rfl, trivial⟩
  refine Ret.at (impl_DecOk_c hm' rfl) ?_
  rintro v w5 ⟨hv, y5⟩
  subst hv
  rw [dnn_ok hm hs]
  obtain ⟨w6, st6, hb6, ch, sz⟩ := ((hn2.blk.ext y4).ext y5).storeA0 (P := P) (t := T_impl_Dec) (xs := [.bool false, .slice ap an ac, .int .i64 s]) (by kernel_rfl) rfl (by simp [Value.oneCell'])
  have Z : Ext w w6 := (X.trans y5).chg ch (by simp; omega)
  exact ⟨_, rfl, ifT ⟨_, _, _, _, _, (hb4.ext y5).loadA0 (by kernel_rfl), w6, st6, _, _, _, _, _, hb6.loadA0 (by kernel_rfl), [.bool false, .slice ap an ac, .int .i64 s], rfl, ⟨rfl, ⟨_, _, _, rfl, ha.ext Z⟩, rfl, trivial⟩, Z⟩⟩
theorem impl_DecAt_n {w : World} {xs : List Value} {m s t : Nat} (h : Reps w xs (dnn m s)) (hm : (digs m).length ≤ 6) (hs : s ≤ 30) (ht : t ≤ s) :
    Ret P n_impl_DecAt [.agg ⟨xs⟩, .int .i64 (t : Int)] w fun v w' => ∃ vs d, v = .tuple #[.agg ⟨vs⟩, .bool (decide (m % 10 ^ (s - t) = 0))] ∧ Reps w' vs d ∧ d.map D0.code = [.bool, .ints, .int] ∧ (m % 10 ^ (s - t) = 0 → d = dnn (m / 10 ^ (s - t)) t) ∧ Ext w w' := by
  have hr := h
  obtain ⟨a0, ap, an, ac, az, a2, rfl, hd, ha⟩ := open_Dec h rfl
  simp only [dnn, List.cons.injEq, D0.bool.injEq, D0.ints.injEq, D0.int.injEq, and_true] at hd
  obtain ⟨rfl, rfl, rfl⟩ := hd
  have hla := ha.1
  refine impl_DecAt_ret ?_
  unfold impl_DecAt
  intro r w1 hn1 r1 w2 hn2
  have e1 := hn1.r_eq; have e2 := hn2.r_eq; have z1 := hn1.size; have z2 := hn2.size
  have X := hn1.ext.trans hn2.ext
  have q0 := hn1.blk.ext hn2.ext
  refine ⟨_, _, _, _, _, q0.loadA0 (by kernel_rfl), ?_⟩
  refine Ret.at (impl_DecOk_c (hr.ext X) rfl) ?_
  rintro v w3 ⟨hv, y3⟩
  subst hv
  rw [dnn_ok hm ⟨by omega, by omega⟩]
  refine ⟨_, rfl, ifN (fun hh => absurd hh (by simp)) (fun _ => ?_)⟩
  refine Ret.at (impl_isScale_c (t : Int) _) ?_
  rintro v w4 ⟨hv, hw⟩
  subst hv; subst hw
  rw [decide_eq_true (show (0 : Int) ≤ (t : Int) ∧ (t : Int) ≤ 30 by omega)]
  refine ⟨_, rfl, ifN (fun hh => absurd hh (by simp)) (fun _ => ?_)⟩
  unfold impl_DecAt_j0
  have q0 := q0.ext y3; have q1 := hn2.blk.ext y3
  have X3 := X.trans y3
  have l3 := y3.le
  refine ⟨_, q0.loadAt 2 rfl (by kernel_rfl) rfl, ifD (fun hle => ?_) (fun hgt => ?_)⟩
  · have hst : t = s := by omega
    subst hst
    have D := Ext.drew w4
    have X4 := X3.trans D
    have lD := D.le
    have k0 := q0.ext D; have k1 := q1.ext D
    refine Ret.at (R := fun v w' => ∃ r, v = .func (.func n_impl_scaled_1) ⟨[]⟩ ⟨[.pointer (some ⟨r, 0, none⟩)]⟩ ∧ Blk w' r T_int [.int .i64 (t : Int)] ∧ Ext w4.drew w') ?_ ?_
    · refine impl_scaled_ret ?_
      unfold impl_scaled
      intro r5 w5 hn5
      exact ⟨r5, rfl, hn5.blk, hn5.ext⟩
    rintro v w5 ⟨r5, hv, hb5, y5⟩
    subst hv
    refine ⟨_, rfl, y5, _, _, _, _, _, fun W hW => (k0.ext hW).loadA0 (by kernel_rfl), _, _, _, rfl, by kernel_rfl, ?_⟩
    refine Calls.mono (impl_scaled_1_c (hr.ext (X4.trans y5)) (digs_limbs m) (by omega) (by omega) (by omega) (by omega) hb5) ?_
    rintro e w6 ⟨v, he, vs1, f1, hv, ho1, _, y6⟩
    subst hv
    have e0 : mkS false (digs (val (digs m) * 10 ^ ((t : Int) - (t : Int)).toNat).toNat) = [.bool false, .ints (digs m)] := by
      rw [Int.sub_self, Int.toNat_zero, Int.pow_zero, Int.mul_one, val_digs, Int.toNat_natCast]; rfl
    rw [e0] at ho1
    obtain ⟨g0, gp, gn, gc, gz, rfl, _, _⟩ := open_Signed ho1.reps rfl
    refine ⟨_, _, _, _, he, ?_⟩
    refine Ret.at (impl_decOf_c ho1 hm ⟨by omega, by omega⟩) ?_
    rintro v w7 ⟨vs7, hv, ho7, y7⟩
    subst hv
    have Y := (y5.trans y6).trans y7
    have l5 := y5.le
    obtain ⟨d0, dp, dn, dc, dz, ds, rfl, _, _⟩ := open_Dec ho7.reps rfl
    obtain ⟨w8, st8, hb8, ch, sz⟩ := (k1.ext Y).storeA0 (P := P) (t := T_impl_Dec) (xs := [.bool d0, .slice dp dn dc, .int .i64 ds]) (by kernel_rfl) rfl (by simp [Value.oneCell'])
    have Z : Ext w w8 := (X4.trans Y).chg ch (by simp; omega)
    refine ⟨_, _, _, _, _, _, rfl, w8, st8, _, _, _, _, _, hb8.loadA0 (by kernel_rfl), [.bool d0, .slice dp dn dc, .int .i64 ds], dnn m t, ?_, (ho7.chg1 ch (by omega)).reps, rfl, fun _ => ?_, Z⟩
    · rw [Nat.sub_self, Nat.pow_zero, Nat.mod_one]; rfl
    · rw [Nat.sub_self, Nat.pow_zero, Nat.div_one]
  · have hlt : t < s := by omega
    have ek : ((s : Int) - (t : Int)).toNat = s - t := by omega
    have eks : ((s : Int) - (t : Int)) = ((s - t : Nat) : Int) := by omega
    have D := Ext.drew w4
    have k0 := q0.ext D
    refine ⟨_, _, _, fun W hW => (k0.ext hW).loadAt 1 rfl (by kernel_rfl) rfl, _, fun W hW => (k0.ext hW).loadAt 2 rfl (by kernel_rfl) rfl, exW ⟨by omega, by omega⟩ ?_⟩
    refine Ret.at (impl_natTen_c (k := (s : Int) - (t : Int)) (by omega) (by omega)) ?_
    rintro v w5 ⟨p5, n5, c5, hv, ho5, y5⟩
    subst hv
    rw [ek] at ho5
    have hl5 := ho5.ints.1
    have ht5 := ten_len (k := s - t) (by omega)
    have hp5 : 0 < (digs (10 ^ (s - t))).length := digs_pos_len.2 (Nat.ne_of_gt (Nat.pow_pos (by decide)))
    refine ⟨_, _, _, rfl, y5, ?_⟩
    refine Ret.at (impl_natDiv_c (ha.ext ((X3.trans D).trans y5)) ho5.ints (digs_canon m) (digs_canon _) (by omega) (by omega) (by omega)) ?_
    rintro v w6 ⟨p1, n1, c1, p2, n2, c2, hv, hoq, hor, _, y6⟩
    subst hv
    rw [val_div] at hoq
    rw [val_mod] at hor
    have Y := (D.trans y5).trans y6
    have i1 := hoq.ints; have i2 := hor.ints
    have hml : (digs (m / 10 ^ (s - t))).length ≤ 6 := digs_div_len hm
    refine ⟨_, _, _, _, _, _, rfl, ifD (fun hrem => ?_) (fun hno => ?_)⟩
    · have hne : m % 10 ^ (s - t) ≠ 0 := digs_pos_len.1 (by have := i2.1; omega)
      obtain ⟨w8, st8, hb8, ch, sz⟩ := (q1.ext Y).storeA0 (P := P) (t := T_impl_Dec) (xs := [.bool false, .slice none 0 0, .int .i64 0]) (by kernel_rfl) rfl (by simp [Value.oneCell'])
      have Z : Ext w w8 := (X3.trans Y).chg ch (by simp; omega)
      exact ⟨w8, st8, _, _, _, _, _, hb8.loadA0 (by kernel_rfl), [.bool false, .slice none 0 0, .int .i64 0], [.bool false, .ints [], .int 0], by rw [decide_eq_false hne], ⟨rfl, ⟨_, _, _, rfl, IntsR.nil _ _ (by omega)⟩, rfl, trivial⟩, rfl, fun hh => absurd hh hne, Z⟩
    · have heq : m % 10 ^ (s - t) = 0 := Decidable.byContradiction fun hh => by
        have := digs_pos_len.2 hh
        have := i2.1
        omega
      refine ⟨_, (q0.ext Y).loadAt 0 rfl (by kernel_rfl) rfl, ?_⟩
      refine Ret.at (impl_signed_c (neg := false) i1.1) ?_
      rintro v w9 ⟨hv, y9⟩
      subst hv
      have Y5 := Y.trans y9
      refine ⟨_, _, _, _, rfl, ?_⟩
      refine Ret.at (impl_decOf_r (xs := [.bool (false && !(digs (m / 10 ^ (s - t))).isEmpty), .slice p1 n1 c1]) ⟨rfl, ⟨_, _, _, rfl, i1.ext y9⟩, trivial⟩ hml ⟨by omega, by omega⟩) ?_
      rintro v w7 ⟨vs7, hv, hp7, y7⟩
      subst hv
      obtain ⟨d0, dp, dn, dc, dz, ds, rfl, hde, hdi⟩ := open_Dec hp7 rfl
      have hde' := hde
      simp only [dnn, List.cons.injEq, D0.bool.injEq, D0.ints.injEq, D0.int.injEq, and_true] at hde'
      obtain ⟨rfl, rfl, rfl⟩ := hde'
      have Y7 := Y5.trans y7
      obtain ⟨w8, st8, hb8, ch, sz⟩ := (q1.ext Y7).storeA0 (P := P) (t := T_impl_Dec) (xs := [.bool false, .slice dp dn dc, .int .i64 (t : Int)]) (by kernel_rfl) rfl (by simp [Value.oneCell'])
      have Z : Ext w w8 := (X3.trans Y7).chg ch (by simp; omega)
      exact ⟨_, _, _, _, _, _, rfl, w8, st8, _, _, _, _, _, hb8.loadA0 (by kernel_rfl), [.bool false, .slice dp dn dc, .int .i64 (t : Int)], dnn (m / 10 ^ (s - t)) t, by rw [decide_eq_true heq], ⟨rfl, ⟨_, _, _, rfl, IntsR.store3 (q1.ext Y7) hdi ch⟩, rfl, trivial⟩, rfl, fun _ => rfl, Z⟩
theorem spec_DecAt_n {w : World} {xs : List Value} {m s t : Nat} (h : Reps w xs (dnn m s)) (hm : (digs m).length ≤ 6) (hs : s ≤ 30) (ht : t ≤ s) :
    Ret P n_spec_DecAt [.agg ⟨xs⟩, .int .i64 (t : Int)] w fun v w' => ∃ vs d, v = .tuple #[.agg ⟨vs⟩, .bool (decide (m % 10 ^ (s - t) = 0))] ∧ Reps w' vs d ∧ d.map D0.code = [.bool, .ints, .int] ∧ (m % 10 ^ (s - t) = 0 → d = dnn (m / 10 ^ (s - t)) t) ∧ Ext w w' := by
  have hr := h
  obtain ⟨a0, ap, an, ac, az, a2, rfl, hd, ha⟩ := open_Dec h rfl
  simp only [dnn, List.cons.injEq, D0.bool.injEq, D0.ints.injEq, D0.int.injEq, and_true] at hd
  obtain ⟨rfl, rfl, rfl⟩ := hd
  have hla := ha.1
  refine spec_DecAt_ret ?_
  unfold spec_DecAt
  intro r w1 hn1 r1 w2 hn2
  have e1 := hn1.r_eq; have e2 := hn2.r_eq; have z1 := hn1.size; have z2 := hn2.size
  have X := hn1.ext.trans hn2.ext
  have q0 := hn1.blk.ext hn2.ext
  refine ⟨_, _, _, _, _, q0.loadA0 (by kernel_rfl), ?_⟩
  refine Ret.at (spec_DecOk_c (hr.ext X) rfl) ?_
  rintro v w3 ⟨hv, y3⟩
  subst hv
  rw [dnn_ok hm ⟨by omega, by omega⟩]
  refine ⟨_, rfl, ifN (fun hh => absurd hh (by simp)) (fun _ => ?_)⟩
  refine Ret.at (spec_l01In_c (t : Int) 0 30 _) ?_
  rintro v w4 ⟨hv, hw⟩
  subst hv; subst hw
  rw [decide_eq_true (show (0 : Int) ≤ (t : Int) ∧ (t : Int) ≤ 30 by omega)]
  refine ⟨_, rfl, ifN (fun hh => absurd hh (by simp)) (fun _ => ?_)⟩
  unfold spec_DecAt_j0
  have q0 := q0.ext y3; have q1 := hn2.blk.ext y3
  have X3 := X.trans y3
  have l3 := y3.le
  refine ⟨_, q0.loadAt 2 rfl (by kernel_rfl) rfl, ifD (fun hle => ?_) (fun hgt => ?_)⟩
  · have hst : t = s := by omega
    subst hst
    have D := Ext.drew w4
    have X4 := X3.trans D
    have lD := D.le
    have k0 := q0.ext D; have k1 := q1.ext D
    refine ⟨_, _, _, _, fun W hW => (k0.ext hW).loadAAt 0 [.bool false, .slice ap an ac] rfl (by kernel_rfl) rfl, _, fun W hW => (k0.ext hW).loadAt 2 rfl (by kernel_rfl) rfl, exW ⟨by omega, by omega⟩ ?_⟩
    refine Ret.at (spec_l07Ten_c (k := (t : Int) - (t : Int)) (by omega) (by omega)) ?_
    rintro v w5 ⟨vs5, f5, hv, ho5, _, y5⟩
    subst hv
    have e0 : enc ((10 ^ ((t : Int) - (t : Int)).toNat : Nat) : Int) = [.bool false, .ints (digs 1)] := by
      rw [Int.sub_self, Int.toNat_zero, Nat.pow_zero, enc_nat]
    rw [e0] at ho5
    obtain ⟨g0, gp, gn, gc, gz, rfl, _, _⟩ := open_Signed ho5.reps rfl
    refine ⟨_, _, _, _, rfl, y5, ?_⟩
    have h1 : Reps w5 [.bool false, .slice ap an ac] [.bool false, .ints (digs m)] := ⟨rfl, ⟨_, _, _, rfl, ha.ext (X4.trans y5)⟩, trivial⟩
    refine Ret.at (spec_IntMul_c h1 ho5.reps rfl rfl) ?_
    rintro v w6 ⟨vs6, f6, hv, ho6, _, y6⟩
    subst hv
    rw [imul_nn (by omega) (by rw [digs_one]; decide) (by rw [Nat.mul_one]; omega), Nat.mul_one] at ho6
    obtain ⟨g20, g2p, g2n, g2c, g2z, rfl, _, _⟩ := open_Signed ho6.reps rfl
    refine ⟨_, _, _, _, rfl, ?_⟩
    refine Ret.at (spec_l07Dec_c ho6 hm ⟨by omega, by omega⟩) ?_
    rintro v w7 ⟨vs7, hv, ho7, y7⟩
    subst hv
    have Y := (y5.trans y6).trans y7
    have l5 := y5.le
    obtain ⟨d0, dp, dn, dc, dz, ds, rfl, _, _⟩ := open_Dec ho7.reps rfl
    obtain ⟨w8, st8, hb8, ch, sz⟩ := (k1.ext Y).storeA0 (P := P) (t := T_impl_Dec) (xs := [.bool d0, .slice dp dn dc, .int .i64 ds]) (by kernel_rfl) rfl (by simp [Value.oneCell'])
    have Z : Ext w w8 := (X4.trans Y).chg ch (by simp; omega)
    refine ⟨_, _, _, _, _, _, rfl, w8, st8, _, _, _, _, _, hb8.loadA0 (by kernel_rfl), [.bool d0, .slice dp dn dc, .int .i64 ds], dnn m t, ?_, (ho7.chg1 ch (by omega)).reps, rfl, fun _ => ?_, Z⟩
    · rw [Nat.sub_self, Nat.pow_zero, Nat.mod_one]; rfl
    · rw [Nat.sub_self, Nat.pow_zero, Nat.div_one]
  · have hlt : t < s := by omega
    have ek : ((s : Int) - (t : Int)).toNat = s - t := by omega
    have eks : ((s : Int) - (t : Int)) = ((s - t : Nat) : Int) := by omega
    refine ⟨_, _, _, q0.loadAt 1 rfl (by kernel_rfl) rfl, _, q0.loadAt 2 rfl (by kernel_rfl) rfl, exW ⟨by omega, by omega⟩ ?_⟩
    rw [eks]
    refine Ret.at (spec_NatCut_n (ha.ext X3) (by omega) (show s - t ≤ 30 by omega)) ?_
    rintro v w6 ⟨p1, n1, c1, p2, n2, c2, hv, i1, i2, Y⟩
    subst hv
    have hml : (digs (m / 10 ^ (s - t))).length ≤ 6 := digs_div_len hm
    refine ⟨_, _, _, _, _, _, rfl, ifD (fun hrem => ?_) (fun hno => ?_)⟩
    · have hne : m % 10 ^ (s - t) ≠ 0 := digs_pos_len.1 (by have := i2.1; omega)
      obtain ⟨w8, st8, hb8, ch, sz⟩ := (q1.ext Y).storeA0 (P := P) (t := T_impl_Dec) (xs := [.bool false, .slice none 0 0, .int .i64 0]) (by kernel_rfl) rfl (by simp [Value.oneCell'])
      have Z : Ext w w8 := (X3.trans Y).chg ch (by simp; omega)
      exact ⟨w8, st8, _, _, _, _, _, hb8.loadA0 (by kernel_rfl), [.bool false, .slice none 0 0, .int .i64 0], [.bool false, .ints [], .int 0], by rw [decide_eq_false hne], ⟨rfl, ⟨_, _, _, rfl, IntsR.nil _ _ (by omega)⟩, rfl, trivial⟩, rfl, fun hh => absurd hh hne, Z⟩
    · have heq : m % 10 ^ (s - t) = 0 := Decidable.byContradiction fun hh => by
        have := digs_pos_len.2 hh
        have := i2.1
        omega
      refine ⟨_, (q0.ext Y).loadAt 0 rfl (by kernel_rfl) rfl, ?_⟩
      have Y5 := Y
      refine Ret.at (spec_l07Dec_r (xs := [.bool false, .slice p1 n1 c1]) ⟨rfl, ⟨_, _, _, rfl, i1⟩, trivial⟩ hml ⟨by omega, by omega⟩) ?_
      rintro v w7 ⟨vs7, hv, hp7, y7⟩
      subst hv
      obtain ⟨d0, dp, dn, dc, dz, ds, rfl, hde, hdi⟩ := open_Dec hp7 rfl
      have hde' := hde
      simp only [dnn, List.cons.injEq, D0.bool.injEq, D0.ints.injEq, D0.int.injEq, and_true] at hde'
      obtain ⟨rfl, rfl, rfl⟩ := hde'
      have Y7 := Y5.trans y7
      obtain ⟨w8, st8, hb8, ch, sz⟩ := (q1.ext Y7).storeA0 (P := P) (t := T_impl_Dec) (xs := [.bool false, .slice dp dn dc, .int .i64 (t : Int)]) (by kernel_rfl) rfl (by simp [Value.oneCell'])
      have Z : Ext w w8 := (X3.trans Y7).chg ch (by simp; omega)
      exact ⟨_, _, _, _, _, _, rfl, w8, st8, _, _, _, _, _, hb8.loadA0 (by kernel_rfl), [.bool false, .slice dp dn dc, .int .i64 (t : Int)], dnn (m / 10 ^ (s - t)) t, by rw [decide_eq_true heq], ⟨rfl, ⟨_, _, _, rfl, IntsR.store3 (q1.ext Y7) hdi ch⟩, rfl, trivial⟩, rfl, fun _ => rfl, Z⟩
theorem impl_DecLow_n {w : World} {xs : List Value} {m s : Nat} (h : Reps w xs (dnn m s)) (hm : (digs m).length ≤ 6) (hs : s ≤ 30) :
    Ret P n_impl_DecLow [.agg ⟨xs⟩] w fun v w' => ∃ vs, v = .agg ⟨vs⟩ ∧ Reps w' vs (dnn (lowM m s) (lowS m s)) ∧ Ext w w' := by
  have hr := h
  obtain ⟨a0, ap, an, ac, az, a2, rfl, hd, ha⟩ := open_Dec h rfl
  simp only [dnn, List.cons.injEq, D0.bool.injEq, D0.ints.injEq, D0.int.injEq, and_true] at hd
  obtain ⟨rfl, rfl, rfl⟩ := hd
  refine impl_DecLow_ret ?_
  unfold impl_DecLow
  intro r w1 hn1 r1 w2 hn2
  have e1 := hn1.r_eq; have e2 := hn2.r_eq; have z1 := hn1.size; have z2 := hn2.size
  have X := hn1.ext.trans hn2.ext
  have q0 := hn1.blk.ext hn2.ext
  refine ⟨fun i wr => ∃ t : Nat, i = t ∧ t ≤ s ∧ (∀ u < t, m % 10 ^ (s - u) ≠ 0) ∧ Ext w2 wr, fun i _ => (31 - i).toNat, ⟨0, rfl, by omega, fun u hu => absurd hu (by omega), Ext.refl _⟩, ?_⟩
  intro junk wr i ⟨t, hi, ht, hmin, hx⟩
  subst hi
  refine ⟨_, (q0.ext hx).loadAt 2 rfl (by kernel_rfl) rfl, ifD (fun _ => ifD (fun _ => ?_) (fun hh => absurd (show (t : Int) ≤ 30 by omega) hh)) (fun hh => absurd (show (t : Int) ≤ (s : Int) by omega) hh)⟩
  unfold impl_DecLow_j0
  refine ⟨_, _, _, _, _, (q0.ext hx).loadA0 (by kernel_rfl), ?_⟩
  refine Ret.at (impl_DecAt_n (hr.ext (X.trans hx)) hm hs ht) ?_
  rintro v w4 ⟨vs, d, hv, hp, hcode, hd, y4⟩
  subst hv
  obtain ⟨d0, dp, dn, dc, dz, ds, rfl, hde, hdi⟩ := open_Dec hp hcode
  refine ⟨_, _, _, _, _, _, rfl, ?_⟩
  intro r5 w5 hn5
  obtain ⟨w6, st6, hb6, y6⟩ := hn5.fill (P := P) (t := T_impl_Dec) (xs := [.bool d0, .slice dp dn dc, .int .i64 ds]) (by simp [Value.oneCell']) (by kernel_rfl) rfl
  have Y := (hx.trans y4).trans y6
  refine ⟨w6, st6, fun hyes => ?_, fun hno => ?_⟩
  · have hyes := of_decide_eq_true hyes
    have hd := hd hyes
    rw [hde] at hd
    simp only [dnn, List.cons.injEq, D0.bool.injEq, D0.ints.injEq, D0.int.injEq, and_true] at hd
    obtain ⟨rfl, rfl, rfl⟩ := hd
    have hlow := lowS_eq ht hyes hmin
    obtain ⟨w7, st7, hb7, ch, sz⟩ := (hn2.blk.ext Y).storeA0 (P := P) (t := T_impl_Dec) (xs := [.bool false, .slice dp dn dc, .int .i64 (t : Int)]) (by kernel_rfl) rfl (by simp [Value.oneCell'])
    refine ⟨_, _, _, _, _, hb6.loadA0 (by kernel_rfl), w7, st7, _, _, _, _, _, hb7.loadA0 (by kernel_rfl), [.bool false, .slice dp dn dc, .int .i64 (t : Int)], rfl, ?_, (X.trans Y).chg ch (by simp; omega)⟩
    rw [lowM, hlow]
    exact ⟨rfl, ⟨_, _, _, rfl, IntsR.store3 (hn2.blk.ext Y) (hdi.ext y6) ch⟩, rfl, trivial⟩
  · have hno := of_decide_eq_false hno
    have hts : t < s := by
      rcases Nat.lt_or_ge t s with hh | hh
      · exact hh
      · exfalso
        apply hno
        rw [show s - t = 0 by omega, Nat.pow_zero, Nat.mod_one]
    refine exW ⟨by omega, by omega⟩ ⟨⟨t + 1, by omega, by omega, fun u hu => ?_, Y⟩, ?_⟩
    · rcases Nat.lt_or_ge u t with hh | hh
      · exact hmin u hh
      · rw [show u = t by omega]; exact hno
    · show (31 - ((t : Int) + 1)).toNat < (31 - (t : Int)).toNat
      omega
theorem spec_DecLow_n {w : World} {xs : List Value} {m s : Nat} (h : Reps w xs (dnn m s)) (hm : (digs m).length ≤ 6) (hs : s ≤ 30) :
    Ret P n_spec_DecLow [.agg ⟨xs⟩] w fun v w' => ∃ vs, v = .agg ⟨vs⟩ ∧ Reps w' vs (dnn (lowM m s) (lowS m s)) ∧ Ext w w' := by
  have hr := h
  obtain ⟨a0, ap, an, ac, az, a2, rfl, hd, ha⟩ := open_Dec h rfl
  simp only [dnn, List.cons.injEq, D0.bool.injEq, D0.ints.injEq, D0.int.injEq, and_true] at hd
  obtain ⟨rfl, rfl, rfl⟩ := hd
  refine spec_DecLow_ret ?_
  unfold spec_DecLow
  intro r w1 hn1 r1 w2 hn2
  have e1 := hn1.r_eq; have e2 := hn2.r_eq; have z1 := hn1.size; have z2 := hn2.size
  have X := hn1.ext.trans hn2.ext
  have q0 := hn1.blk.ext hn2.ext
  refine ⟨fun i wr => ∃ t : Nat, i = t ∧ t ≤ s ∧ (∀ u < t, m % 10 ^ (s - u) ≠ 0) ∧ Ext w2 wr, fun i _ => (31 - i).toNat, ⟨0, rfl, by omega, fun u hu => absurd hu (by omega), Ext.refl _⟩, ?_⟩
  intro junk wr i ⟨t, hi, ht, hmin, hx⟩
  subst hi
  refine ifD (fun _ => ?_) (fun hh => absurd (show (t : Int) ≤ 30 by omega) hh)
  refine ⟨_, _, _, _, _, (q0.ext hx).loadA0 (by kernel_rfl), ?_⟩
  refine Ret.at (spec_DecAt_n (hr.ext (X.trans hx)) hm hs ht) ?_
  rintro v w4 ⟨vs, d, hv, hp, hcode, hd, y4⟩
  subst hv
  obtain ⟨d0, dp, dn, dc, dz, ds, rfl, hde, hdi⟩ := open_Dec hp hcode
  refine ⟨_, _, _, _, _, _, rfl, ?_⟩
  intro r5 w5 hn5
  obtain ⟨w6, st6, hb6, y6⟩ := hn5.fill (P := P) (t := T_impl_Dec) (xs := [.bool d0, .slice dp dn dc, .int .i64 ds]) (by simp [Value.oneCell']) (by kernel_rfl) rfl
  have Y := (hx.trans y4).trans y6
  refine ⟨w6, st6, fun hyes => ?_, fun hno => ?_⟩
  · have hyes := of_decide_eq_true hyes
    have hd := hd hyes
    rw [hde] at hd
    simp only [dnn, List.cons.injEq, D0.bool.injEq, D0.ints.injEq, D0.int.injEq, and_true] at hd
    obtain ⟨rfl, rfl, rfl⟩ := hd
    have hlow := lowS_eq ht hyes hmin
    obtain ⟨w7, st7, hb7, ch, sz⟩ := (hn2.blk.ext Y).storeA0 (P := P) (t := T_impl_Dec) (xs := [.bool false, .slice dp dn dc, .int .i64 (t : Int)]) (by kernel_rfl) rfl (by simp [Value.oneCell'])
    refine ⟨_, _, _, _, _, hb6.loadA0 (by kernel_rfl), w7, st7, _, _, _, _, _, hb7.loadA0 (by kernel_rfl), [.bool false, .slice dp dn dc, .int .i64 (t : Int)], rfl, ?_, (X.trans Y).chg ch (by simp; omega)⟩
    rw [lowM, hlow]
    exact ⟨rfl, ⟨_, _, _, rfl, IntsR.store3 (hn2.blk.ext Y) (hdi.ext y6) ch⟩, rfl, trivial⟩
  · have hno := of_decide_eq_false hno
    have hts : t < s := by
      rcases Nat.lt_or_ge t s with hh | hh
      · exact hh
      · exfalso
        apply hno
        rw [show s - t = 0 by omega, Nat.pow_zero, Nat.mod_one]
    refine exW ⟨by omega, by omega⟩ ⟨⟨t + 1, by omega, by omega, fun u hu => ?_, Y⟩, ?_⟩
    · rcases Nat.lt_or_ge u t with hh | hh
      · exact hmin u hh
      · rw [show u = t by omega]; exact hno
    · show (31 - ((t : Int) + 1)).toNat < (31 - (t : Int)).toNat
      omega
end Go.Proofs.YtpaekkcgphljoaaGreatDoor

namespace Go.Proofs.YtpaekkcgphljoaaGreatDoor
open Go Go.Proofs.YtpaekkcgphljoaaGreatDoor.Sx
set_option linter.unusedVariables false
set_option linter.unusedSimpArgs false
def taxOk : List D0 → Bool
  | [.bool b, .ints z, .int s] => decOk [.bool b, .ints z, .int s] && decide (z.length ≤ 1) && !b && decide (dcmp [.bool b, .ints z, .int s] (enc 1 ++ [.int 0]) ≤ 0)
  | _ => false
theorem spec_TaxRateOk_c {w : World} {xs : List Value} {dx : List D0} (h : Reps w xs dx) (hc : dx.map D0.code = [.bool, .ints, .int]) :
    Ret P n_spec_TaxRateOk [.agg ⟨xs⟩] w fun v w' => v = .bool (taxOk dx) ∧ Ext w w' := by
  have hr := h
  obtain ⟨a0, a1p, a1n, a1c, a1z, a2, rfl, rfl, ha⟩ := open_Dec h hc
  refine spec_TaxRateOk_ret ?_
  unfold spec_TaxRateOk
  intro r w1 hn1
  have D := Ext.drew w1
  have X := hn1.ext.trans D
  have hl := ha.1
  refine ⟨_, _, _, _, _, fun W hW => (hn1.blk.ext (D.trans hW)).loadA0 (by kernel_rfl), ?_⟩
  refine Ret.at (spec_DecOk_c (hr.ext X) rfl) ?_
  rintro v w2 ⟨hv, y2⟩
  subst hv
  have X2 := X.trans y2
  have b := (hn1.blk.ext D).ext y2
  refine ⟨_, rfl, fun e1 => ⟨_, fun W hW => (b.ext hW).loadAt 0 rfl (by kernel_rfl) rfl, fun e2 => ⟨_, _, _, fun W hW => (b.ext hW).loadAt 1 rfl (by kernel_rfl) rfl, ifD (fun hle => ?_) (fun hgt => ⟨?_, X2⟩)⟩, fun e2 => ifF ⟨?_, X2⟩⟩, fun e1 => ifF (ifF ⟨?_, X2⟩)⟩
  · refine ⟨_, _, _, _, _, fun W hW => (b.ext hW).loadA0 (by kernel_rfl), ?_⟩
    refine Ret.at (spec_IntOf_c (n := 1) (by omega) (by omega)) ?_
    rintro v w3 ⟨vs, f, hv, ho, _, y3⟩
    subst hv
    obtain ⟨g0, gp, gn, gc, gz, rfl, hg, hgi⟩ := open_Signed ho.reps (enc_code _)
    refine ⟨_, _, _, _, rfl, y3, ?_⟩
    have hone : Reps w3 [.bool g0, .slice gp gn gc, .int .i64 0] (enc 1 ++ [.int 0]) := by
      rw [hg]; exact ⟨rfl, ⟨_, _, _, rfl, hgi⟩, rfl, trivial⟩
    refine Ret.at (spec_DecCmp_c (hr.ext (X2.trans y3)) hone rfl rfl) ?_
    rintro v w4 ⟨hv, y4⟩
    subst hv
    refine ⟨_, rfl, ?_, (X2.trans y3).trans y4⟩
    have e2 : a0 = false := by simpa using e2
    subst e2
    simp only [taxOk, e1, show decide (a1z.length ≤ 1) = true by simp; omega, Bool.and_self, Bool.not_false, Bool.true_and]
  · simp only [taxOk, show decide (a1z.length ≤ 1) = false by simp; omega, Bool.and_false, Bool.false_and]
  · have e2 : a0 = true := by simpa using e2
    simp only [taxOk, e2, Bool.not_true, Bool.and_false, Bool.false_and]
  · simp only [taxOk, e1, Bool.false_and]
theorem impl_TaxRateOk_c {w : World} {xs : List Value} {dx : List D0} (h : Reps w xs dx) (hc : dx.map D0.code = [.bool, .ints, .int]) :
    Ret P n_impl_TaxRateOk [.agg ⟨xs⟩] w fun v w' => v = .bool (taxOk dx) ∧ Ext w w' := by
  have hr := h
  obtain ⟨a0, a1p, a1n, a1c, a1z, a2, rfl, rfl, ha⟩ := open_Dec h hc
  refine impl_TaxRateOk_ret ?_
  unfold impl_TaxRateOk
  intro r w1 hn1
  have D := Ext.drew w1
  have X := hn1.ext.trans D
  have hl := ha.1
  refine ⟨_, _, _, _, _, fun W hW => (hn1.blk.ext (D.trans hW)).loadA0 (by kernel_rfl), ?_⟩
  refine Ret.at (impl_DecOk_c (hr.ext X) rfl) ?_
  rintro v w2 ⟨hv, y2⟩
  subst hv
  have X2 := X.trans y2
  have b := (hn1.blk.ext D).ext y2
  refine ⟨_, rfl, fun e1 => ⟨_, _, _, fun W hW => (b.ext hW).loadAt 1 rfl (by kernel_rfl) rfl, ifD (fun hle => ⟨_, fun W hW => (b.ext hW).loadAt 0 rfl (by kernel_rfl) rfl, fun e2 => ?_, fun e2 => ⟨?_, X2⟩⟩) (fun hgt => ifF ⟨?_, X2⟩)⟩, fun e1 => ifF (ifF ⟨?_, X2⟩)⟩
  · refine ⟨_, _, _, _, _, fun W hW => (b.ext hW).loadA0 (by kernel_rfl), ?_⟩
    refine Ret.at (impl_IntOf_c (n := 1) (by omega) (by omega)) ?_
    rintro v w3 ⟨vs, f, hv, ho, _, y3⟩
    subst hv
    obtain ⟨g0, gp, gn, gc, gz, rfl, hg, hgi⟩ := open_Signed ho.reps (enc_code _)
    refine ⟨_, _, _, _, rfl, y3, ?_⟩
    have hone : Reps w3 [.bool g0, .slice gp gn gc, .int .i64 0] (enc 1 ++ [.int 0]) := by
      rw [hg]; exact ⟨rfl, ⟨_, _, _, rfl, hgi⟩, rfl, trivial⟩
    refine Ret.at (impl_DecCmp_c (hr.ext (X2.trans y3)) hone rfl rfl) ?_
    rintro v w4 ⟨hv, y4⟩
    subst hv
    refine ⟨_, rfl, ?_, (X2.trans y3).trans y4⟩
    have e2 : a0 = false := by simpa using e2
    subst e2
    simp only [taxOk, e1, show decide (a1z.length ≤ 1) = true by simp; omega, Bool.and_self, Bool.not_false, Bool.true_and]
  · have e2 : a0 = true := by simpa using e2
    simp only [taxOk, e2, Bool.not_true, Bool.and_false, Bool.false_and]
  · simp only [taxOk, show decide (a1z.length ≤ 1) = false by simp; omega, Bool.and_false, Bool.false_and]
  · simp only [taxOk, e1, Bool.false_and]
end Go.Proofs.YtpaekkcgphljoaaGreatDoor

namespace Go.Proofs.YtpaekkcgphljoaaGreatDoor
open Go Go.Shelf
set_option linter.unusedVariables false
def ren171 : Ren := ⟨fun x => match x with | 171 => 58 | 243 => 77 | 246 => 99 | 283 => 110 | 284 => 111 | 285 => 112 | 286 => 113 | 129 => 120 | 317 => 119 | 318 => 121 | 319 => 122 | 320 => 123 | 337 => 124 | 338 => 125 | n => n, fun x => match x with | 3 => 3 | 9 => 9 | 2 => 2 | 4 => 4 | 171 => 116 | 0 => 0 | 53 => 72 | 37 => 75 | 5 => 5 | 173 => 119 | 212 => 126 | 51 => 109 | 20 => 20 | 213 => 127 | 46 => 100 | 232 => 130 | 233 => 131 | n => n, fun x => match x with | 17 => 0 | 18 => 2 | 19 => 3 | n => n⟩
theorem lays171 : LaysM.n171 Tryz.prog ren171 := {
  mixed := by kernel_rfl,
  f129 := Tryz.func120.trans (congrArg some (by kernel_rfl)),
  f171 := Tryz.func58.trans (congrArg some (by kernel_rfl)),
  f243 := Tryz.func77.trans (congrArg some (by kernel_rfl)),
  f246 := Tryz.func99.trans (congrArg some (by kernel_rfl)),
  f283 := Tryz.func110.trans (congrArg some (by kernel_rfl)),
  f284 := Tryz.func111.trans (congrArg some (by kernel_rfl)),
  f285 := Tryz.func112.trans (congrArg some (by kernel_rfl)),
  f286 := Tryz.func113.trans (congrArg some (by kernel_rfl)),
  f317 := Tryz.func119.trans (congrArg some (by kernel_rfl)),
  f318 := Tryz.func121.trans (congrArg some (by kernel_rfl)),
  f319 := Tryz.func122.trans (congrArg some (by kernel_rfl)),
  f320 := Tryz.func123.trans (congrArg some (by kernel_rfl)),
  f337 := Tryz.func124.trans (congrArg some (by kernel_rfl)),
  f338 := Tryz.func125.trans (congrArg some (by kernel_rfl)),
  t0 := Tryz.underlying0,
  a0 := Tryz.isAgg0,
  z0 := Tryz.sizeOf0,
  v0 := Tryz.zeroValue0,
  t2 := Tryz.underlying2,
  a2 := Tryz.isAgg2,
  z2 := Tryz.sizeOf2,
  v2 := Tryz.zeroValue2,
  t3 := Tryz.underlying3,
  a3 := Tryz.isAgg3,
  z3 := Tryz.sizeOf3,
  v3 := Tryz.zeroValue3,
  t4 := Tryz.underlying4,
  a4 := Tryz.isAgg4,
  z4 := Tryz.sizeOf4,
  v4 := Tryz.zeroValue4,
  t5 := Tryz.underlying5,
  a5 := Tryz.isAgg5,
  z5 := Tryz.sizeOf5,
  v5 := Tryz.zeroValue5,
  t9 := Tryz.underlying9,
  a9 := Tryz.isAgg9,
  z9 := Tryz.sizeOf9,
  v9 := Tryz.zeroValue9,
  t20 := Tryz.underlying20,
  a20 := Tryz.isAgg20,
  z20 := Tryz.sizeOf20,
  v20 := Tryz.zeroValue20,
  t37 := Tryz.underlying75,
  a37 := Tryz.isAgg75,
  z37 := Tryz.sizeOf75,
  v37 := Tryz.zeroValue75,
  t46 := Tryz.underlying100,
  a46 := Tryz.isAgg100,
  z46 := Tryz.sizeOf100,
  v46 := Tryz.zeroValue100,
  t51 := Tryz.underlying109,
  a51 := Tryz.isAgg109,
  z51 := Tryz.sizeOf109,
  v51 := Tryz.zeroValue109,
  t53 := Tryz.underlying72,
  a53 := Tryz.isAgg72,
  z53 := Tryz.sizeOf72,
  v53 := Tryz.zeroValue72,
  t171 := Tryz.underlying116,
  a171 := Tryz.isAgg116,
  z171 := Tryz.sizeOf116,
  v171 := Tryz.zeroValue116,
  t173 := Tryz.underlying119,
  a173 := Tryz.isAgg119,
  z173 := Tryz.sizeOf119,
  v173 := Tryz.zeroValue119,
  t212 := Tryz.underlying126,
  a212 := Tryz.isAgg126,
  z212 := Tryz.sizeOf126,
  v212 := Tryz.zeroValue126,
  t213 := Tryz.underlying127,
  a213 := Tryz.isAgg127,
  z213 := Tryz.sizeOf127,
  t232 := Tryz.underlying130,
  a232 := Tryz.isAgg130,
  z232 := Tryz.sizeOf130,
  v232 := Tryz.zeroValue130,
  t233 := Tryz.underlying131,
  a233 := Tryz.isAgg131,
  z233 := Tryz.sizeOf131,
  v233 := Tryz.zeroValue131,
  g17 := by kernel_rfl,
  g18 := by kernel_rfl,
  g19 := by kernel_rfl,
  i0 := by kernel_rfl,
  i2 := by kernel_rfl,
  i3 := by kernel_rfl,
  i4 := by kernel_rfl,
  i5 := by kernel_rfl,
  i9 := by kernel_rfl,
  i20 := by kernel_rfl,
  i37 := by kernel_rfl,
  i46 := by kernel_rfl,
  i51 := by kernel_rfl,
  i53 := by kernel_rfl,
  i171 := by kernel_rfl,
  i173 := by kernel_rfl,
  i212 := by kernel_rfl,
  i232 := by kernel_rfl,
  i233 := by kernel_rfl,
  m17 := by kernel_rfl,
  m18 := by kernel_rfl,
  m19 := by kernel_rfl }
def ren105 : Ren := ⟨fun x => match x with | 105 => 74 | 212 => 91 | 99 => 92 | 165 => 78 | 166 => 79 | 170 => 93 | 169 => 80 | 263 => 105 | 264 => 106 | 206 => 107 | 240 => 100 | 241 => 101 | 276 => 114 | 277 => 115 | n => n, fun x => match x with | 9 => 9 | 3 => 3 | 4 => 4 | 20 => 20 | 0 => 0 | 46 => 100 | 109 => 101 | 5 => 5 | 72 => 90 | 76 => 94 | 51 => 109 | 146 => 110 | 53 => 72 | 148 => 112 | 70 => 88 | 37 => 75 | 75 => 93 | 127 => 108 | 164 => 121 | 80 => 96 | n => n, fun x => x⟩
theorem lays105 : Lays.n105 Tryz.prog ren105 := {
  mixed := by kernel_rfl,
  f99 := Tryz.func92.trans (congrArg some (by kernel_rfl)),
  f105 := Tryz.func74.trans (congrArg some (by kernel_rfl)),
  f165 := Tryz.func78.trans (congrArg some (by kernel_rfl)),
  f166 := Tryz.func79.trans (congrArg some (by kernel_rfl)),
  f169 := Tryz.func80.trans (congrArg some (by kernel_rfl)),
  f170 := Tryz.func93.trans (congrArg some (by kernel_rfl)),
  f206 := Tryz.func107.trans (congrArg some (by kernel_rfl)),
  f212 := Tryz.func91.trans (congrArg some (by kernel_rfl)),
  f240 := Tryz.func100.trans (congrArg some (by kernel_rfl)),
  f241 := Tryz.func101.trans (congrArg some (by kernel_rfl)),
  f263 := Tryz.func105.trans (congrArg some (by kernel_rfl)),
  f264 := Tryz.func106.trans (congrArg some (by kernel_rfl)),
  f276 := Tryz.func114.trans (congrArg some (by kernel_rfl)),
  f277 := Tryz.func115.trans (congrArg some (by kernel_rfl)),
  t0 := Tryz.underlying0,
  a0 := Tryz.isAgg0,
  z0 := Tryz.sizeOf0,
  v0 := Tryz.zeroValue0,
  t3 := Tryz.underlying3,
  a3 := Tryz.isAgg3,
  z3 := Tryz.sizeOf3,
  v3 := Tryz.zeroValue3,
  t4 := Tryz.underlying4,
  a4 := Tryz.isAgg4,
  z4 := Tryz.sizeOf4,
  v4 := Tryz.zeroValue4,
  t5 := Tryz.underlying5,
  a5 := Tryz.isAgg5,
  z5 := Tryz.sizeOf5,
  v5 := Tryz.zeroValue5,
  t9 := Tryz.underlying9,
  a9 := Tryz.isAgg9,
  z9 := Tryz.sizeOf9,
  v9 := Tryz.zeroValue9,
  t20 := Tryz.underlying20,
  a20 := Tryz.isAgg20,
  z20 := Tryz.sizeOf20,
  v20 := Tryz.zeroValue20,
  t37 := Tryz.underlying75,
  a37 := Tryz.isAgg75,
  z37 := Tryz.sizeOf75,
  v37 := Tryz.zeroValue75,
  t46 := Tryz.underlying100,
  a46 := Tryz.isAgg100,
  z46 := Tryz.sizeOf100,
  v46 := Tryz.zeroValue100,
  t51 := Tryz.underlying109,
  a51 := Tryz.isAgg109,
  z51 := Tryz.sizeOf109,
  v51 := Tryz.zeroValue109,
  t53 := Tryz.underlying72,
  a53 := Tryz.isAgg72,
  z53 := Tryz.sizeOf72,
  v53 := Tryz.zeroValue72,
  t70 := Tryz.underlying88,
  a70 := Tryz.isAgg88,
  z70 := Tryz.sizeOf88,
  v70 := Tryz.zeroValue88,
  t72 := Tryz.underlying90,
  a72 := Tryz.isAgg90,
  z72 := Tryz.sizeOf90,
  v72 := Tryz.zeroValue90,
  t75 := Tryz.underlying93,
  a75 := Tryz.isAgg93,
  z75 := Tryz.sizeOf93,
  v75 := Tryz.zeroValue93,
  t76 := Tryz.underlying94,
  a76 := Tryz.isAgg94,
  z76 := Tryz.sizeOf94,
  v76 := Tryz.zeroValue94,
  t109 := Tryz.underlying101,
  a109 := Tryz.isAgg101,
  z109 := Tryz.sizeOf101,
  v109 := Tryz.zeroValue101,
  t127 := Tryz.underlying108,
  a127 := Tryz.isAgg108,
  z127 := Tryz.sizeOf108,
  v127 := Tryz.zeroValue108,
  t146 := Tryz.underlying110,
  a146 := Tryz.isAgg110,
  z146 := Tryz.sizeOf110,
  v146 := Tryz.zeroValue110,
  t148 := Tryz.underlying112,
  a148 := Tryz.isAgg112,
  z148 := Tryz.sizeOf112,
  v148 := Tryz.zeroValue112,
  t164 := Tryz.underlying121,
  a164 := Tryz.isAgg121,
  z164 := Tryz.sizeOf121,
  v164 := Tryz.zeroValue121 }
def ren156 : Ren := ⟨fun x => match x with | 156 => 59 | 165 => 78 | 166 => 79 | 169 => 80 | 240 => 100 | 241 => 101 | 276 => 114 | 277 => 115 | n => n, fun x => match x with | 31 => 54 | 9 => 9 | 3 => 3 | 4 => 4 | 0 => 0 | 20 => 20 | 72 => 90 | 76 => 94 | 70 => 88 | 37 => 75 | 75 => 93 | 127 => 108 | 164 => 121 | 5 => 5 | 80 => 96 | n => n, fun x => x⟩
theorem lays156 : Lays.n156 Tryz.prog ren156 := {
  mixed := by kernel_rfl,
  f156 := Tryz.func59.trans (congrArg some (by kernel_rfl)),
  f165 := Tryz.func78.trans (congrArg some (by kernel_rfl)),
  f166 := Tryz.func79.trans (congrArg some (by kernel_rfl)),
  f169 := Tryz.func80.trans (congrArg some (by kernel_rfl)),
  f240 := Tryz.func100.trans (congrArg some (by kernel_rfl)),
  f241 := Tryz.func101.trans (congrArg some (by kernel_rfl)),
  f276 := Tryz.func114.trans (congrArg some (by kernel_rfl)),
  f277 := Tryz.func115.trans (congrArg some (by kernel_rfl)),
  t0 := Tryz.underlying0,
  a0 := Tryz.isAgg0,
  z0 := Tryz.sizeOf0,
  v0 := Tryz.zeroValue0,
  t3 := Tryz.underlying3,
  a3 := Tryz.isAgg3,
  z3 := Tryz.sizeOf3,
  v3 := Tryz.zeroValue3,
  t4 := Tryz.underlying4,
  a4 := Tryz.isAgg4,
  z4 := Tryz.sizeOf4,
  v4 := Tryz.zeroValue4,
  t9 := Tryz.underlying9,
  a9 := Tryz.isAgg9,
  z9 := Tryz.sizeOf9,
  v9 := Tryz.zeroValue9,
  t20 := Tryz.underlying20,
  a20 := Tryz.isAgg20,
  z20 := Tryz.sizeOf20,
  v20 := Tryz.zeroValue20,
  t31 := Tryz.underlying54,
  a31 := Tryz.isAgg54,
  z31 := Tryz.sizeOf54,
  v31 := Tryz.zeroValue54,
  t37 := Tryz.underlying75,
  a37 := Tryz.isAgg75,
  z37 := Tryz.sizeOf75,
  v37 := Tryz.zeroValue75,
  t70 := Tryz.underlying88,
  a70 := Tryz.isAgg88,
  z70 := Tryz.sizeOf88,
  v70 := Tryz.zeroValue88,
  t72 := Tryz.underlying90,
  a72 := Tryz.isAgg90,
  z72 := Tryz.sizeOf90,
  v72 := Tryz.zeroValue90,
  t75 := Tryz.underlying93,
  a75 := Tryz.isAgg93,
  z75 := Tryz.sizeOf93,
  v75 := Tryz.zeroValue93,
  t76 := Tryz.underlying94,
  a76 := Tryz.isAgg94,
  z76 := Tryz.sizeOf94,
  v76 := Tryz.zeroValue94,
  t127 := Tryz.underlying108,
  a127 := Tryz.isAgg108,
  z127 := Tryz.sizeOf108,
  v127 := Tryz.zeroValue108,
  t164 := Tryz.underlying121,
  a164 := Tryz.isAgg121,
  z164 := Tryz.sizeOf121,
  v164 := Tryz.zeroValue121 }
end Go.Proofs.YtpaekkcgphljoaaGreatDoor

namespace Go.Proofs.YtpaekkcgphljoaaGreatDoor
open Go Go.Proofs.YtpaekkcgphljoaaGreatDoor.Sx
set_option linter.unusedVariables false
set_option linter.unusedSimpArgs false
theorem convs_bytes {w : World} {s e d ee : TypeId} {r : Nat} (xs : List Int) (hs : P.underlying s = some (.slice e)) (he : P.underlying e = some (.int .u8)) (hd : P.underlying d = some .string) (hb : Blk w r ee (xs.map (Value.int .u8))) :
    Convs P s d (.slice (some ⟨r, 0, none⟩) xs.length xs.length) (.string (strOfNums xs)) w :=
  run_convert_bytes_arg w s e hs he r 0 xs.length xs.length xs rfl (fun i hi => by
    have := hb.seg i (.int .u8 (xs.getD i 0)) (by simp [List.getD_eq_getElem?_getD, List.getElem?_eq_getElem hi])
    simpa using this) d hd
end Go.Proofs.YtpaekkcgphljoaaGreatDoor

namespace Go.Proofs.YtpaekkcgphljoaaGreatDoor
open Go Go.Proofs.YtpaekkcgphljoaaGreatDoor.Sx
set_option linter.unusedVariables false
set_option linter.unusedSimpArgs false
/-- the table of powers of ten lies in its variable -/
def TabP (w : World) : Prop := Lib.TabIs P w "internal/strconv.uint64pow10" .u64 Lib.pow10Tab
theorem TabP.ext {w w' : World} (h : TabP w) (he : Ext w w') : TabP w' := Joins.tab_stays lays171.m17 h he (Nat.le_refl _)
theorem X105 : Go.Proofs.Builder.Extra P ren105 where
  sizeBuilder := by kernel_rfl
  liesBuilder := by kernel_rfl
  t5 := lays105.t5
  a5 := lays105.a5
  z5 := lays105.z5
  v5 := lays105.v5
  infoByte := by kernel_rfl
  cellsByte := by kernel_rfl
  sizeByte := by kernel_rfl
  neB5 := by decide
theorem ba_ext {a b : ByteArray} (h : a.data.toList = b.data.toList) : a = b := by
  obtain ⟨⟨x⟩⟩ := a; obtain ⟨⟨y⟩⟩ := b
  simp at h; subst h; rfl
theorem ba_empty_append (a : ByteArray) : ByteArray.empty ++ a = a := ba_ext (by simp)
theorem ba_append_empty (a : ByteArray) : a ++ ByteArray.empty = a := ba_ext (by simp)
/-- a number in decimal -/
def itxt (u : Nat) : ByteArray := ⟨(Lib.decDigits u).toArray⟩
theorem decDigits_small {u : Nat} (h : u < 10) : Lib.decDigits u = [UInt8.ofNat (48 + u)] := by rw [Lib.decDigits, dif_pos h]
theorem decDigits_big {u : Nat} (h : ¬ u < 10) : Lib.decDigits u = Lib.decDigits (u / 10) ++ [UInt8.ofNat (48 + u % 10)] := by rw [Lib.decDigits, dif_neg h]
theorem itxt_small {u : Nat} (h : u < 10) : itxt u = strOfNums [((48 + u : Nat) : Int)] := ba_ext (by rw [strOfNums_data, itxt, decDigits_small h]; rfl)
theorem itxt_big {u : Nat} (h : ¬ u < 10) : itxt u = itxt (u / 10) ++ strOfNums [((48 + u % 10 : Nat) : Int)] := ba_ext (by
  have e : (itxt u).data.toList = Lib.decDigits u := by simp [itxt]
  have e1 : (itxt (u / 10)).data.toList = Lib.decDigits (u / 10) := by simp [itxt]
  rw [e, decDigits_big h, ByteArray.data_append, Array.toList_append, e1, strOfNums_data]; rfl)
theorem itxt_lt : ∀ (k : Nat) {u : Nat}, u < 10 ^ (k + 1) → (itxt u).size ≤ k + 1
  | 0, u, h => by rw [itxt_small (by simpa using h), strOfNums_size]; simp
  | k + 1, u, h => by
    by_cases h1 : u < 10
    · rw [itxt_small h1, strOfNums_size]; simp
    · have h2 : u / 10 < 10 ^ (k + 1) := by rw [Nat.pow_succ] at h; omega
      have := itxt_lt k h2
      rw [itxt_big h1, ByteArray.size_append, strOfNums_size]
      simp; omega
theorem itxt_limb {u : Nat} (h : u < 1000000000) : (itxt u).size ≤ 9 := itxt_lt 8 (by simpa using h)
theorem spec_IntText_c {w : World} {n : Int} (h0 : 0 ≤ n) (h1 : n ≤ 9223372036854775806) : Ret P n_spec_IntText [.int .i64 n] w fun v w' => v = .string (itxt n.toNat) ∧ Ext w w' := by
  refine spec_IntText_ret ?_
  unfold spec_IntText
  refine ifD (fun h => absurd h (by omega)) (fun _ => ?_)
  refine ⟨fun k s wr => 0 ≤ k ∧ k ≤ n ∧ (s.size : Int) + k ≤ n ∧ itxt n.toNat = itxt k.toNat ++ s ∧ Ext w wr, fun k _ _ => k.toNat, ⟨by omega, by omega, by show ((0 : Nat) : Int) + n ≤ n; omega, (ba_append_empty _).symm, Ext.refl _⟩, ?_⟩
  intro junk wr k s ⟨hk0, hk1, hsz, ht, hx⟩
  have wu : ∀ z : Int, 0 ≤ z → z < 256 → IntKind.wrap .u8 z = z := fun z h0 h1 => by
    simp only [IntKind.wrap, IntKind.bits, IntKind.signed]
    simp
    omega
  refine ifD (fun hbig => ?_) (fun hsmall => ?_)
  · refine ⟨by decide, _, rfl, ?_⟩
    rw [Int.tmod_eq_emod_of_nonneg hk0]
    refine exW ⟨by omega, by omega⟩ ⟨_, rfl, ?_⟩
    rw [wu _ (by omega) (by omega)]
    intro r w1 hn
    refine ⟨_, convs_bytes (ee := T_uint8) [48 + k % 10] (e := T_uint8) (by kernel_rfl) (by kernel_rfl) (by kernel_rfl) hn.blk, ?_, _, rfl, by decide, ?_⟩
    · rw [strOfNums_size]; simp; omega
    rw [Int.tdiv_eq_ediv_of_nonneg hk0]
    refine exW ⟨by omega, by omega⟩ ⟨⟨by omega, by omega, ?_, ?_, hx.trans hn.ext⟩, ?_⟩
    · rw [ByteArray.size_append, strOfNums_size]; simp; omega
    · rw [ht, itxt_big (u := k.toNat) (by omega), ByteArray.append_assoc]
      have e1 : (k / 10).toNat = k.toNat / 10 := by omega
      have e2 : (48 + k % 10) = ((48 + k.toNat % 10 : Nat) : Int) := by omega
      rw [e1, e2]
    · show (k / 10).toNat < k.toNat
      omega
  · refine exW ⟨by omega, by omega⟩ ⟨_, rfl, ?_⟩
    rw [wu _ (by omega) (by omega)]
    intro r w1 hn
    refine ⟨_, convs_bytes (ee := T_uint8) [48 + k] (e := T_uint8) (by kernel_rfl) (by kernel_rfl) (by kernel_rfl) hn.blk, ?_, _, rfl, ?_, hx.trans hn.ext⟩
    · rw [strOfNums_size]; simp; omega
    · rw [ht, itxt_small (u := k.toNat) (by omega)]
      have e2 : (48 + k) = ((48 + k.toNat : Nat) : Int) := by omega
      rw [e2]
theorem impl_IntText_c {w : World} {n : Int} (ht : TabP w) (h0 : 0 ≤ n) (h1 : n ≤ 9223372036854775807) : Ret P n_impl_IntText [.int .i64 n] w fun v w' => v = .string (itxt n.toNat) ∧ Ext w w' := by
  refine impl_IntText_ret ?_
  unfold impl_IntText
  obtain ⟨u, rfl⟩ : ∃ u : Nat, n = u := ⟨n.toNat, by omega⟩
  refine (Any.strconv_Itoa lays171 (u : Int) (by omega) h1 w ht).mono ?_
  rintro e w' ⟨rfl, k, os, rfl⟩
  rw [Lib.itoa_nonneg]
  exact ⟨_, rfl, rfl, Lib.below_grow _ _ (Nat.le_refl _) _ _⟩
def zeros (k : Nat) : ByteArray := ⟨(List.replicate k (48 : UInt8)).toArray⟩
def padT (s : ByteArray) (n : Int) : ByteArray := if n ≤ (s.size : Nat) ∨ 2000 < n then s else zeros (n - (s.size : Nat)).toNat ++ s
theorem zeros_size (k : Nat) : (zeros k).size = k := by simp [zeros, ByteArray.size]
theorem zeros_succ (k : Nat) : zeros (k + 1) = S [48] ++ zeros k := ba_ext (by simp [zeros, List.replicate_succ, Sx.S])
theorem zeros_zero (s : ByteArray) : zeros 0 ++ s = s := ba_ext (by simp [zeros])
theorem padT_le {s : ByteArray} {n : Int} {k : Nat} (h1 : s.size ≤ k) (h2 : n ≤ k) : (padT s n).size ≤ k := by
  unfold padT
  split
  · exact h1
  · rw [ByteArray.size_append, zeros_size]; omega
theorem padT_ge {s : ByteArray} {n : Int} (h : n ≤ 2000) : n ≤ ((padT s n).size : Nat) := by
  unfold padT
  split
  · omega
  · rw [ByteArray.size_append, zeros_size]; omega
theorem repeat_zeros (c : Nat) : (⟨(Lib.repeatL (S [48]).data.toList c).toArray⟩ : ByteArray) = zeros c := by
  have : ∀ c, Lib.repeatL (S [48]).data.toList c = List.replicate c (48 : UInt8) := fun c => by
    induction c with
    | zero => rfl
    | succ c ih => rw [Lib.repeatL, ih]; rfl
  rw [this]; rfl
theorem spec_Pad_c {w : World} (s : ByteArray) (n : Int) (hs : s.size ≤ 4611686018427387904) (hn : -4611686018427387904 ≤ n) : Ret P n_spec_Pad [.string s, .int .i64 n] w fun v w' => v = .string (padT s n) ∧ w' = w := by
  refine spec_Pad_ret ?_
  unfold spec_Pad
  refine ifD (fun h => ⟨by rw [padT, if_pos (.inr h)], rfl⟩) (fun h => ?_)
  refine ⟨fun s1 wr => ∃ k : Nat, k ≤ (n - (s.size : Nat)).toNat ∧ s1 = zeros k ++ s ∧ wr = w, fun s1 _ => (n - (s1.size : Nat)).toNat, ⟨0, by omega, (zeros_zero s).symm, rfl⟩, ?_⟩
  intro junk wr s1 ⟨k, hk, hs1, hw⟩
  subst hs1; subst hw
  have hsz : (zeros k ++ s).size = k + s.size := by rw [ByteArray.size_append, zeros_size]
  rw [hsz]
  refine ifD (fun hlt => ?_) (fun hge => ⟨?_, rfl⟩)
  · refine ⟨?_, _, rfl, ⟨k + 1, by omega, by rw [zeros_succ, ByteArray.append_assoc], rfl⟩, ?_⟩
    · show 1 + (k + s.size) ≤ 9223372036854775807
      omega
    · show (n - ((S [48] ++ (zeros k ++ s)).size : Nat)).toNat < (n - ((zeros k ++ s).size : Nat)).toNat
      rw [ByteArray.size_append, hsz]
      show (n - ((1 + (k + s.size) : Nat) : Int)).toNat < _
      omega
  · unfold padT
    by_cases h2 : n ≤ (s.size : Nat)
    · rw [if_pos (.inl h2)]
      have : k = 0 := by omega
      rw [this, zeros_zero]
    · rw [if_neg (by omega)]
      have : k = (n - (s.size : Nat)).toNat := by omega
      rw [this]
theorem impl_Pad_c {w : World} (s : ByteArray) (n : Int) (hs : s.size ≤ 4611686018427387904) (hn : -4611686018427387904 ≤ n) : Ret P n_impl_Pad [.string s, .int .i64 n] w fun v w' => v = .string (padT s n) ∧ Ext w w' := by
  refine impl_Pad_ret ?_
  unfold impl_Pad
  refine ifD (fun h => ifT ⟨by rw [padT, if_pos (.inl h)], Ext.refl _⟩) (fun h => ifD (fun h2 => ⟨by rw [padT, if_pos (.inr h2)], Ext.refl _⟩) (fun h2 => ?_))
  refine exW ⟨by omega, by omega⟩ ?_
  obtain ⟨c, hc⟩ : ∃ c : Nat, n - (s.size : Nat) = c := ⟨(n - (s.size : Nat)).toNat, by omega⟩
  rw [hc]
  refine (Any.strings_Repeat lays105 X105 (S [48]) c w (by omega) (by show 1 * c ≤ 140737488355328; omega)).mono ?_
  rintro e w' ⟨rfl, hx⟩
  rw [repeat_zeros]
  refine ⟨_, rfl, ?_, _, rfl, ?_, hx⟩
  · rw [zeros_size]; omega
  · rw [padT, if_neg (by omega), hc]; rfl
def natR : List Int → ByteArray
  | [] => ByteArray.empty
  | x :: r => padT (itxt x.toNat) 9 ++ natR r
def natT (l : List Int) : ByteArray := match l.reverse with
  | [] => S [48]
  | x :: r => itxt x.toNat ++ natR r
theorem limb_text {x : Int} (h : 0 ≤ x ∧ x < 1000000000) : (itxt x.toNat).size ≤ 9 ∧ (padT (itxt x.toNat) 9).size ≤ 9 :=
  have h1 := itxt_limb (u := x.toNat) (by omega)
  ⟨h1, padT_le h1 (by decide)⟩
theorem natR_size : ∀ {l : List Int}, Limbs l → (natR l).size ≤ l.length * 9
  | [], _ => by simp [natR]
  | x :: r, h => by
    have h := Limbs.cons.1 h
    have h1 := natR_size h.2; have h2 := (limb_text h.1).2
    rw [natR, ByteArray.size_append, List.length_cons]
    omega
theorem natT_size {l : List Int} (h : Limbs l) : (natT l).size ≤ l.length * 9 + 1 := by
  unfold natT
  cases e : l.reverse with
  | nil => show 1 ≤ _; omega
  | cons x r =>
    have hl : l.length = r.length + 1 := by rw [← List.length_reverse, e]; rfl
    have hh : Limbs (x :: r) := fun y hy => h y (by rw [← List.mem_reverse, e]; exact hy)
    have hh := Limbs.cons.1 hh
    have h1 := natR_size hh.2; have h2 := (limb_text hh.1).1
    show (itxt x.toNat ++ natR r).size ≤ _
    rw [ByteArray.size_append, hl]; omega
theorem rev_take_succ {l : List Int} {t : Nat} (h : t < l.length) : (l.take (t + 1)).reverse = l.getD t 0 :: (l.take t).reverse := by
  rw [List.take_add_one, List.getElem?_eq_getElem h, List.getD_eq_getElem?_getD, List.getElem?_eq_getElem h]
  simp
theorem natT_top {l : List Int} {n : Nat} (h : l.length = n + 1) : natT l = itxt (l.getD n 0).toNat ++ natR (l.take n).reverse := by
  have := rev_take_succ (l := l) (t := n) (by omega)
  rw [List.take_of_length_le (by omega)] at this
  unfold natT
  rw [this]
theorem impl_natText_c {w : World} {p : Option Addr} {n c : Nat} {z : List Int} (h : IntsR w p n c z) (hlz : Limbs z) (hn : n ≤ 1000) (ht : TabP w) :
    Ret P n_impl_natText [.slice p n c] w fun v w' => v = .string (natT z) ∧ Ext w w' := by
  refine impl_natText_ret ?_
  unfold impl_natText
  have hlen := h.1
  have XS := Ext.refl w
  refine ifD (fun h0 => ⟨?_, XS⟩) (fun h0 => ?_)
  · rw [List.eq_nil_of_length_eq_zero (show z.length = 0 by omega)]; rfl
  · skip
    obtain ⟨m, rfl⟩ : ∃ m, n = m + 1 := ⟨n - 1, by omega⟩
    have e1 : ((m + 1 : Nat) : Int) - 1 = (m : Int) := by omega
    have e2 : ((m + 1 : Nat) : Int) - 2 = (m : Int) - 1 := by omega
    rw [e1, e2]
    have T := hlz.getD m
    obtain ⟨ad, rfl, hl⟩ := ints_at (h.ext XS) (i := (m : Int)) (by omega) (by omega)
    simp only [Int.toNat_natCast] at hl
    refine exW ⟨by omega, by omega⟩ ⟨⟨by omega, by omega⟩, _, by simpa only [Int.toNat_natCast] using hl, ?_⟩
    refine Ret.at (impl_IntText_c (ht.ext XS) T.1 (by omega)) ?_
    rintro v w2 ⟨hv, y2⟩
    subst hv
    refine ⟨_, rfl, exW ⟨by omega, by omega⟩ ⟨fun text i wr => ∃ s : Nat, i = (s : Int) - 1 ∧ s ≤ m ∧ text.size ≤ (m - s) * 9 + 9 ∧ natT z = text ++ natR (z.take s).reverse ∧ Ext w wr, fun _ i _ => (i + 1).toNat,
      ⟨m, rfl, by omega, by have := (limb_text T).1; omega, natT_top hlen, XS.trans y2⟩, ?_⟩⟩
    intro junk wr text i ⟨s, hi, hs, hsz, htx, hx⟩
    subst hi
    refine ifD (fun hpos => ?_) (fun hend => ?_)
    · obtain ⟨t, rfl⟩ : ∃ t, s = t + 1 := ⟨s - 1, by omega⟩
      have e3 : ((t + 1 : Nat) : Int) - 1 = (t : Int) := by omega
      rw [e3]
      have A := hlz.getD t
      have L := limb_text A
      obtain ⟨ad, hp, hl⟩ := ints_at (h.ext hx) (i := (t : Int)) (by omega) (by omega)
      obtain rfl := Option.some.inj hp
      simp only [Int.toNat_natCast] at hl
      refine ⟨⟨by omega, by omega⟩, _, by simpa only [Int.toNat_natCast] using hl, ?_⟩
      refine Ret.at (impl_IntText_c (ht.ext hx) A.1 (by omega)) ?_
      rintro v w3 ⟨hv, y3⟩
      subst hv
      refine ⟨_, rfl, ?_⟩
      refine Ret.at (impl_Pad_c _ 9 (by omega) (by omega)) ?_
      rintro v w4 ⟨hv, y4⟩
      subst hv
      refine ⟨_, rfl, ?_, _, rfl, exW ⟨by omega, by omega⟩ ⟨⟨t, by omega, by omega, ?_, ?_, (hx.trans y3).trans y4⟩, ?_⟩⟩
      · have : (m - (t + 1)) * 9 ≤ m * 9 := Nat.mul_le_mul_right _ (by omega)
        omega
      · rw [ByteArray.size_append]
        have : m - t = (m - (t + 1)) + 1 := by omega
        rw [this]; omega
      · rw [htx, rev_take_succ (by omega), natR, ByteArray.append_assoc]
      · show ((t : Int) - 1 + 1).toNat < ((t : Int) + 1).toNat
        omega
    · have hs0 : s = 0 := by omega
      subst hs0
      refine ⟨?_, hx⟩
      rw [htx]
      simp [natR]
theorem spec_NatText_c {w : World} {p : Option Addr} {n c : Nat} {z : List Int} (h : IntsR w p n c z) :
    Ret P n_spec_NatText [.slice p n c] w fun v w' => v = .string (if natOk z then natT z else S []) ∧ Ext w w' := by
  refine spec_NatText_ret ?_
  unfold spec_NatText
  have hlen := h.1
  refine Ret.at (spec_NatOk_c h) ?_
  rintro v w1 ⟨hv, XS⟩
  subst hv
  refine ⟨_, rfl, ifN (fun e => ⟨by rw [e]; rfl, XS⟩) (fun e => ?_)⟩
  rw [e, if_pos rfl]
  have hlz := (natOk_spec.1 e).1.1; have hn := (natOk_spec.1 e).2
  refine ifD (fun h0 => ⟨?_, XS⟩) (fun h0 => ?_)
  · rw [List.eq_nil_of_length_eq_zero (show z.length = 0 by omega)]; rfl
  · skip
    obtain ⟨m, rfl⟩ : ∃ m, n = m + 1 := ⟨n - 1, by omega⟩
    have e1 : ((m + 1 : Nat) : Int) - 1 = (m : Int) := by omega
    have e2 : ((m + 1 : Nat) : Int) - 2 = (m : Int) - 1 := by omega
    rw [e1, e2]
    have T := hlz.getD m
    obtain ⟨ad, rfl, hl⟩ := ints_at (h.ext XS) (i := (m : Int)) (by omega) (by omega)
    simp only [Int.toNat_natCast] at hl
    refine exW ⟨by omega, by omega⟩ ⟨⟨by omega, by omega⟩, _, by simpa only [Int.toNat_natCast] using hl, ?_⟩
    refine Ret.at (spec_IntText_c T.1 (by omega)) ?_
    rintro v w2 ⟨hv, y2⟩
    subst hv
    refine ⟨_, rfl, exW ⟨by omega, by omega⟩ ⟨fun text i wr => ∃ s : Nat, i = (s : Int) - 1 ∧ s ≤ m ∧ text.size ≤ (m - s) * 9 + 9 ∧ natT z = text ++ natR (z.take s).reverse ∧ Ext w wr, fun _ i _ => (i + 1).toNat,
      ⟨m, rfl, by omega, by have := (limb_text T).1; omega, natT_top hlen, XS.trans y2⟩, ?_⟩⟩
    intro junk wr text i ⟨s, hi, hs, hsz, htx, hx⟩
    subst hi
    refine ifD (fun hpos => ?_) (fun hend => ?_)
    · obtain ⟨t, rfl⟩ : ∃ t, s = t + 1 := ⟨s - 1, by omega⟩
      have e3 : ((t + 1 : Nat) : Int) - 1 = (t : Int) := by omega
      rw [e3]
      have A := hlz.getD t
      have L := limb_text A
      obtain ⟨ad, hp, hl⟩ := ints_at (h.ext hx) (i := (t : Int)) (by omega) (by omega)
      obtain rfl := Option.some.inj hp
      simp only [Int.toNat_natCast] at hl
      refine ⟨⟨by omega, by omega⟩, _, by simpa only [Int.toNat_natCast] using hl, ?_⟩
      refine Ret.at (spec_IntText_c A.1 (by omega)) ?_
      rintro v w3 ⟨hv, y3⟩
      subst hv
      refine ⟨_, rfl, ?_⟩
      refine Ret.at (spec_Pad_c _ 9 (by omega) (by omega)) ?_
      rintro v w4 ⟨hv, y4⟩
      subst hv; subst y4
      refine ⟨_, rfl, ?_, _, rfl, exW ⟨by omega, by omega⟩ ⟨⟨t, by omega, by omega, ?_, ?_, hx.trans y3⟩, ?_⟩⟩
      · have : (m - (t + 1)) * 9 ≤ m * 9 := Nat.mul_le_mul_right _ (by omega)
        omega
      · rw [ByteArray.size_append]
        have : m - t = (m - (t + 1)) + 1 := by omega
        rw [this]; omega
      · rw [htx, rev_take_succ (by omega), natR, ByteArray.append_assoc]
      · show ((t : Int) - 1 + 1).toNat < ((t : Int) + 1).toNat
        omega
    · have hs0 : s = 0 := by omega
      subst hs0
      refine ⟨?_, hx⟩
      rw [htx]
      simp [natR]
def dotT (t : ByteArray) (s : Int) : ByteArray := if 0 < s then (t.extract 0 (((t.size : Nat) : Int) - s).toNat ++ S [46]) ++ t.extract (((t.size : Nat) : Int) - s).toNat t.size else t
def decT : List D0 → ByteArray
  | [.bool b, .ints z, .int s] => if decOk [.bool b, .ints z, .int s] then (if b then S [45] ++ dotT (padT (natT z) (s + 1)) s else dotT (padT (natT z) (s + 1)) s) else S []
  | _ => S []
theorem dotT_size (t : ByteArray) (s : Int) : (dotT t s).size ≤ t.size + 1 := by
  unfold dotT
  split
  · rw [ByteArray.size_append, ByteArray.size_append, ByteArray.size_extract, ByteArray.size_extract]
    show _ + 1 + _ ≤ _
    omega
  · omega
theorem decOk_parts {b : Bool} {z : List Int} {s : Int} (h : decOk [.bool b, .ints z, .int s] = true) : intOk [.bool b, .ints z] = true ∧ natOk z = true ∧ Limbs z ∧ z.length ≤ 6 ∧ 0 ≤ s ∧ s ≤ 30 := by
  simp only [decOk, Bool.and_eq_true, decide_eq_true_eq] at h
  obtain ⟨⟨h1, h2⟩, h3⟩ := h
  have h4 : natOk z = true := by
    have := h1
    simp only [intOk, Bool.and_eq_true] at this
    exact this.1
  exact ⟨h1, h4, (natOk_spec.1 h4).1.1, h2, h3⟩
theorem decT_size (d : List D0) : (decT d).size ≤ 100 := by
  unfold decT
  split
  · rename_i b z s
    split
    · rename_i h
      obtain ⟨_, _, hz, hl, _, _⟩ := decOk_parts h
      have h1 := natT_size hz; have h3 := dotT_size (padT (natT z) (s + 1)) s
      have h2 : (padT (natT z) (s + 1)).size ≤ 60 := padT_le (by omega) (by omega)
      split
      · rw [ByteArray.size_append]
        show 1 + _ ≤ _
        omega
      · omega
    · show 0 ≤ _; omega
  · show 0 ≤ _; omega
theorem impl_DecText_c {w : World} {xs : List Value} {dx : List D0} (h : Reps w xs dx) (hc : dx.map D0.code = [.bool, .ints, .int]) (ht : TabP w) :
    Ret P n_impl_DecText [.agg ⟨xs⟩] w fun v w' => v = .string (decT dx) ∧ Ext w w' := by
  have hr := h
  obtain ⟨a0, a1p, a1n, a1c, a1z, a2, rfl, rfl, ha⟩ := open_Dec h hc
  have hl := ha.1
  refine impl_DecText_ret ?_
  unfold impl_DecText
  intro r w1 hn1
  refine ⟨_, _, _, _, _, hn1.blk.loadA0 (by kernel_rfl), ?_⟩
  refine Ret.at (impl_DecOk_c (hr.ext hn1.ext) rfl) ?_
  rintro v w2 ⟨hv, y2⟩
  subst hv
  have X2 := hn1.ext.trans y2
  refine ⟨_, rfl, ifN (fun e => ⟨by simp only [decT, e, Bool.false_eq_true, if_false], X2⟩) (fun e => ?_)⟩
  obtain ⟨hio, hno, hz, hl6, hs0, hs1⟩ := decOk_parts e
  have D := Ext.drew w2
  have X3 := X2.trans D
  have b := hn1.blk.ext (y2.trans D)
  refine ⟨_, _, _, fun W hW => (b.ext hW).loadAt 1 rfl (by kernel_rfl) rfl, ?_⟩
  refine Ret.at (impl_natText_c (ha.ext X3) hz (by omega) (ht.ext X3)) ?_
  rintro v w4 ⟨hv, y4⟩
  subst hv
  have N1 := natT_size hz
  have N2 : a1z.length * 9 ≤ 6 * 9 := Nat.mul_le_mul_right _ hl6
  refine ⟨_, rfl, y4, _, fun W hW => (b.ext hW).loadAt 2 rfl (by kernel_rfl) rfl, exW ⟨by omega, by omega⟩ ?_⟩
  refine Ret.at (impl_Pad_c _ (a2 + 1) (by omega) (by omega)) ?_
  rintro v w5 ⟨hv, y5⟩
  subst hv
  have Y5 := y4.trans y5
  have N3 : (padT (natT a1z) (a2 + 1)).size ≤ 60 := padT_le (by omega) (by omega)
  have N4 := padT_ge (s := natT a1z) (n := a2 + 1) (by omega)
  have X5 := X3.trans Y5
  have b5 := b.ext Y5
  have fin : ∀ t W, Ext w5 W → t.size ≤ 1000 → t = dotT (padT (natT a1z) (a2 + 1)) a2 → impl_DecText_j0 r t W fun v w' => v = .string (decT [.bool a0, .ints a1z, .int a2]) ∧ Ext w w' := by
    intro t W hW hts ht
    unfold impl_DecText_j0
    refine ⟨_, (b5.ext hW).loadAt 0 rfl (by kernel_rfl) rfl, fun e0 => ?_, fun e0 => ?_⟩
    · refine ⟨?_, _, rfl, ?_⟩
      · show 1 + t.size ≤ 9223372036854775807
        omega
      unfold impl_DecText_j1
      refine ⟨?_, X5.trans hW⟩
      subst e0
      simp only [decT, e, if_true, ht]
    · unfold impl_DecText_j1
      refine ⟨?_, X5.trans hW⟩
      subst e0
      simp only [decT, e, if_true, ht, Bool.false_eq_true, if_false]
  refine ⟨_, rfl, _, b5.loadAt 2 rfl (by kernel_rfl) rfl, ifD (fun hpos => ?_) (fun hz0 => fin _ _ (Ext.refl _) (by omega) (by rw [dotT, if_neg hz0]))⟩
  refine ⟨_, b5.loadAt 2 rfl (by kernel_rfl) rfl, exW ⟨by omega, by omega⟩ ⟨⟨by omega, by omega⟩, ?_, _, rfl, ⟨by omega, by omega⟩, ?_, _, rfl, fin _ _ (Ext.drew _) ?_ (by rw [dotT, if_pos hpos])⟩⟩
  · rw [ByteArray.size_extract]
    show _ + 1 ≤ _
    omega
  · rw [ByteArray.size_append, ByteArray.size_extract, ByteArray.size_extract]
    show _ + 1 + _ ≤ _
    omega
  · rw [ByteArray.size_append, ByteArray.size_append, ByteArray.size_extract, ByteArray.size_extract]
    show _ + 1 + _ ≤ _
    omega
theorem spec_DecText_c {w : World} {xs : List Value} {dx : List D0} (h : Reps w xs dx) (hc : dx.map D0.code = [.bool, .ints, .int]) :
    Ret P n_spec_DecText [.agg ⟨xs⟩] w fun v w' => v = .string (decT dx) ∧ Ext w w' := by
  have hr := h
  obtain ⟨a0, a1p, a1n, a1c, a1z, a2, rfl, rfl, ha⟩ := open_Dec h hc
  have hl := ha.1
  refine spec_DecText_ret ?_
  unfold spec_DecText
  intro r w1 hn1
  refine ⟨_, _, _, _, _, hn1.blk.loadA0 (by kernel_rfl), ?_⟩
  refine Ret.at (spec_DecOk_c (hr.ext hn1.ext) rfl) ?_
  rintro v w2 ⟨hv, y2⟩
  subst hv
  have X2 := hn1.ext.trans y2
  refine ⟨_, rfl, ifN (fun e => ⟨by simp only [decT, e, Bool.false_eq_true, if_false], X2⟩) (fun e => ?_)⟩
  obtain ⟨hio, hno, hz, hl6, hs0, hs1⟩ := decOk_parts e
  have D := Ext.drew w2
  have X3 := X2.trans D
  have b := hn1.blk.ext (y2.trans D)
  refine ⟨_, _, _, fun W hW => (b.ext hW).loadAt 1 rfl (by kernel_rfl) rfl, ?_⟩
  refine Ret.at (spec_NatText_c (ha.ext X3)) ?_
  rintro v w4 ⟨hv, y4⟩
  subst hv
  rw [hno, if_pos rfl]
  have N1 := natT_size hz
  have N2 : a1z.length * 9 ≤ 6 * 9 := Nat.mul_le_mul_right _ hl6
  refine ⟨_, rfl, y4, _, fun W hW => (b.ext hW).loadAt 2 rfl (by kernel_rfl) rfl, exW ⟨by omega, by omega⟩ ?_⟩
  refine Ret.at (spec_Pad_c _ (a2 + 1) (by omega) (by omega)) ?_
  rintro v w5 ⟨hv, y5⟩
  subst hv
  subst y5
  have Y5 := y4
  have N3 : (padT (natT a1z) (a2 + 1)).size ≤ 60 := padT_le (by omega) (by omega)
  have N4 := padT_ge (s := natT a1z) (n := a2 + 1) (by omega)
  have X5 := X3.trans Y5
  have b5 := b.ext Y5
  have fin : ∀ t W, Ext w5 W → t.size ≤ 1000 → t = dotT (padT (natT a1z) (a2 + 1)) a2 → spec_DecText_j0 r t W fun v w' => v = .string (decT [.bool a0, .ints a1z, .int a2]) ∧ Ext w w' := by
    intro t W hW hts ht
    unfold spec_DecText_j0
    refine ⟨_, (b5.ext hW).loadAt 0 rfl (by kernel_rfl) rfl, fun e0 => ?_, fun e0 => ?_⟩
    · refine ⟨?_, _, rfl, ?_⟩
      · show 1 + t.size ≤ 9223372036854775807
        omega
      refine ⟨?_, X5.trans hW⟩
      subst e0
      simp only [decT, e, if_true, ht]
    · skip
      refine ⟨?_, X5.trans hW⟩
      subst e0
      simp only [decT, e, if_true, ht, Bool.false_eq_true, if_false]
  refine ⟨_, rfl, _, b5.loadAt 2 rfl (by kernel_rfl) rfl, ifD (fun hpos => ?_) (fun hz0 => fin _ _ (Ext.refl _) (by omega) (by rw [dotT, if_neg hz0]))⟩
  refine ⟨_, b5.loadAt 2 rfl (by kernel_rfl) rfl, exW ⟨by omega, by omega⟩ ⟨⟨by omega, by omega⟩, ?_, _, rfl, ⟨by omega, by omega⟩, ?_, _, rfl, fin _ _ (Ext.drew _) ?_ (by rw [dotT, if_pos hpos])⟩⟩
  · rw [ByteArray.size_extract]
    show _ + 1 ≤ _
    omega
  · rw [ByteArray.size_append, ByteArray.size_extract, ByteArray.size_extract]
    show _ + 1 + _ ≤ _
    omega
  · rw [ByteArray.size_append, ByteArray.size_append, ByteArray.size_extract, ByteArray.size_extract]
    show _ + 1 + _ ≤ _
    omega
end Go.Proofs.YtpaekkcgphljoaaGreatDoor

namespace Go.Proofs.YtpaekkcgphljoaaGreatDoor
open Go Go.Proofs.YtpaekkcgphljoaaGreatDoor.Sx
set_option linter.unusedVariables false
set_option linter.unusedSimpArgs false
/-- what floats lies where it was laid -/
theorem Sx.Fl.got {os : List Obj} {ss : List (Option Nat)} {w : World} {ss' : List (Option Nat)} {w' : World} (h : Fl os ss w ss' w') : ∀ {k r : Nat} {o : Obj}, ss[k]? = some none → os[k]? = some o → ss'[k]? = some (some r) → w.heap.size ≤ r ∧ w'.heap[r]? = some o := by
  induction h with
  | refl => intro k r o h0 _ h1; rw [h0] at h1; cases h1
  | step h1 h2 h3 ih =>
    rename_i ss w k' o' ss' w'
    intro k r o h0 ho hr
    by_cases hk : k' = k
    · subst hk
      rw [h2] at ho
      cases ho
      have hset : (ss.set k' (some w.heap.size))[k']? = some (some w.heap.size) := by
        rw [List.getElem?_set_self]
        exact (List.getElem?_eq_some_iff.1 h1).1
      have := h3.keeps hset
      rw [this] at hr
      cases hr
      exact ⟨Nat.le_refl _, (h3.ext.block _ (by simp)).trans (heap_alloc_new w _)⟩
    · obtain ⟨a, b⟩ := ih (k := k) (r := r) (o := o) (by rw [List.getElem?_set_ne hk]; exact h0) ho hr
      refine ⟨?_, b⟩
      have : w.heap.size ≤ (w.alloc o').heap.size := by simp
      omega
end Go.Proofs.YtpaekkcgphljoaaGreatDoor

namespace Go.Proofs.YtpaekkcgphljoaaGreatDoor
open Go Go.Proofs.YtpaekkcgphljoaaGreatDoor.Sx
set_option linter.unusedVariables false
set_option linter.unusedSimpArgs false
def percentT : List D0 → ByteArray
  | [.bool b, .ints z, .int s] => if taxOk [.bool b, .ints z, .int s] then decT (dnn (lowM ((val z).toNat * 100) s.toNat) (lowS ((val z).toNat * 100) s.toNat)) ++ S [37] else S []
  | _ => S []
theorem percentT_size (d : List D0) : (percentT d).size ≤ 200 := by
  unfold percentT
  split
  · split
    · have := decT_size (dnn (lowM ((val ‹List Int›).toNat * 100) (‹Int›).toNat) (lowS ((val ‹List Int›).toNat * 100) (‹Int›).toNat))
      rw [ByteArray.size_append]
      show _ + 1 ≤ _
      omega
    · show 0 ≤ _; omega
  · show 0 ≤ _; omega
/-- a tax rate, as a number that is not negative -/
theorem taxOk_nn {b : Bool} {z : List Int} {s : Int} (h : taxOk [.bool b, .ints z, .int s] = true) : ∃ m t : Nat, b = false ∧ z = digs m ∧ s = (t : Int) ∧ t ≤ 30 ∧ (val z).toNat = m ∧ s.toNat = t ∧ m < 1000000000 := by
  simp only [taxOk, Bool.and_eq_true, decide_eq_true_eq, Bool.not_eq_true'] at h
  obtain ⟨⟨⟨h1, h2⟩, h3⟩, _⟩ := h
  obtain ⟨_, hno, hz, _, h4, h5⟩ := decOk_parts h1
  have hc := (natOk_spec.1 hno).1
  refine ⟨(val z).toNat, s.toNat, h3, (digs_val hc).symm, by omega, by omega, rfl, rfl, ?_⟩
  have hlt := val_lt hz
  have hp : (1000000000 : Int) ^ z.length ≤ 1000000000 := by
    match z, h2 with
    | [], _ => decide
    | [x], _ =>
      show (1000000000 : Int) ^ 1 ≤ 1000000000
      decide
    | _ :: _ :: _, h2 => simp at h2
  have := val_nonneg hz
  omega
theorem hundred_len {m : Nat} (h : m < 1000000000) : (digs (m * 100)).length ≤ 2 := digs_len 2 (by
  have : (1000000000 : Nat) ^ 2 = 1000000000000000000 := by decide
  omega)
theorem one_len {m : Nat} (h : m < 1000000000) : (digs m).length ≤ 1 := digs_len 1 (by simpa using h)
theorem spec_Percent_c {w : World} {xs : List Value} {dx : List D0} (h : Reps w xs dx) (hc : dx.map D0.code = [.bool, .ints, .int]) :
    Ret P n_spec_Percent [.agg ⟨xs⟩] w fun v w' => v = .string (percentT dx) ∧ Ext w w' := by
  have hr := h
  obtain ⟨a0, ap, an, ac, az, a2, rfl, rfl, ha⟩ := open_Dec h hc
  refine spec_Percent_ret ?_
  unfold spec_Percent
  intro r w1 hn1
  refine ⟨_, _, _, _, _, hn1.blk.loadA0 (by kernel_rfl), ?_⟩
  refine Ret.at (spec_TaxRateOk_c (hr.ext hn1.ext) rfl) ?_
  rintro v w2 ⟨hv, y2⟩
  subst hv
  have X2 := hn1.ext.trans y2
  have bk := hn1.blk.ext y2
  refine ⟨_, rfl, ifN (fun e => ⟨by simp only [percentT, e, Bool.false_eq_true, if_false], X2⟩) (fun e => ?_)⟩
  have hgoal : percentT [.bool a0, .ints az, .int a2] = decT (dnn (lowM ((val az).toNat * 100) a2.toNat) (lowS ((val az).toNat * 100) a2.toNat)) ++ S [37] := by simp only [percentT, e, if_true]
  obtain ⟨m, t, rfl, rfl, rfl, ht, em, et, hm⟩ := taxOk_nn e
  rw [hgoal, em, et]
  have l1 := one_len hm; have l2 := hundred_len hm
  have h100 : (digs 100).length ≤ 1 := one_len (by decide)
  have lM : (digs (lowM (m * 100) t)).length ≤ 2 := Nat.le_trans (digs_mono_len (lowM_le _ _)) l2
  have hr2 : Reps w2 [.bool false, .slice ap an ac, .int .i64 (t : Int)] (dnn m t) := hr.ext X2
  have fin : ∀ q, decT q = decT q := fun _ => rfl
  refine ⟨_, _, _, _, _, bk.loadA0 (by kernel_rfl), ?_⟩
  refine Ret.at (spec_DecLow_n hr2 (by omega) ht) ?_
  rintro v w3 ⟨vs3, hv, hp3, y3⟩
  subst hv
  have hp3' := hp3
  obtain ⟨d0, dp, dn, dc, dz, ds, rfl, _, _⟩ := open_Dec hp3' rfl
  have lL : (digs (lowM m t)).length ≤ 1 := Nat.le_trans (digs_mono_len (lowM_le _ _)) l1
  have hLm : lowM m t < 1000000000 := Nat.lt_of_le_of_lt (lowM_le _ _) hm
  have hLt := (lowS_spec m t).1
  have lL2 := hundred_len hLm
  obtain ⟨tw1, tw2⟩ := low_twice m t 100
  refine ⟨_, _, _, _, _, rfl, ?_⟩
  refine Ret.at (spec_IntOf_c (n := 100) (by omega) (by omega)) ?_
  rintro v w4 ⟨vs4, f4, hv, ho4, _, y4⟩
  subst hv
  have e100 : enc 100 = [.bool false, .ints (digs 100)] := enc_nat 100
  rw [e100] at ho4
  obtain ⟨g0, gp, gn, gc, gz, rfl, hg, hgi⟩ := open_Signed ho4.reps rfl
  simp only [List.cons.injEq, D0.bool.injEq, D0.ints.injEq, and_true] at hg
  obtain ⟨rfl, rfl⟩ := hg
  refine ⟨_, _, _, _, rfl, ?_⟩
  have hd5 : Reps w4 [.bool false, .slice gp gn gc, .int .i64 0] (dnn 100 0) := ⟨rfl, ⟨_, _, _, rfl, hgi⟩, rfl, trivial⟩
  refine Ret.at (spec_DecMul_n (hp3.ext y4) hd5 (by omega) (by omega) ⟨by omega, by omega⟩ ⟨by omega, by omega⟩ (by omega) (by omega)) ?_
  rintro v w6 ⟨vs6, f6, hv, ho6, y6⟩
  subst hv
  rw [Int.add_zero] at ho6
  have hp6 := ho6.reps
  have hp6' := hp6
  obtain ⟨c0, cp, cn, cc, cz, cs, rfl, _, _⟩ := open_Dec hp6' rfl
  refine ⟨_, _, _, _, _, _, rfl, ?_⟩
  intro r7 w7 hn7
  obtain ⟨w8, st8, hb8, y8⟩ := hn7.fill (P := P) (t := T_impl_Dec) (xs := [.bool c0, .slice cp cn cc, .int .i64 cs]) (by simp [Value.oneCell']) (by kernel_rfl) rfl
  refine ⟨w8, st8, ifN (fun hh => absurd hh (by simp)) (fun _ => ?_)⟩
  refine ⟨_, _, _, _, _, hb8.loadA0 (by kernel_rfl), ?_⟩
  refine Ret.at (spec_DecLow_n (hp6.ext y8) (by omega) (by omega)) ?_
  rintro v w9 ⟨vs9, hv, hp9, y9⟩
  subst hv
  rw [tw1, tw2] at hp9
  have hp9' := hp9
  obtain ⟨e0, ep, en, ec, ez, es, rfl, _, _⟩ := open_Dec hp9' rfl
  refine ⟨_, _, _, _, _, rfl, ?_⟩
  refine Ret.at (spec_DecText_c hp9 rfl) ?_
  rintro v w10 ⟨hv, y10⟩
  subst hv
  have N := decT_size (dnn (lowM (m * 100) t) (lowS (m * 100) t))
  refine ⟨_, rfl, ?_, _, rfl, rfl, (((((X2.trans y3).trans y4).trans y6).trans y8).trans y9).trans y10⟩
  show _ + 1 ≤ _
  omega
theorem impl_Percent_c {w : World} {xs : List Value} {dx : List D0} (h : Reps w xs dx) (hc : dx.map D0.code = [.bool, .ints, .int]) (hp : TabP w) :
    Ret P n_impl_Percent [.agg ⟨xs⟩] w fun v w' => v = .string (percentT dx) ∧ Ext w w' := by
  have hr := h
  obtain ⟨a0, ap, an, ac, az, a2, rfl, rfl, ha⟩ := open_Dec h hc
  refine impl_Percent_ret ?_
  unfold impl_Percent
  intro r w1 hn1
  refine ⟨_, _, _, _, _, hn1.blk.loadA0 (by kernel_rfl), ?_⟩
  refine Ret.at (impl_TaxRateOk_c (hr.ext hn1.ext) rfl) ?_
  rintro v w2 ⟨hv, y2⟩
  subst hv
  have X2 := hn1.ext.trans y2
  have bk := hn1.blk.ext y2
  refine ⟨_, rfl, ifN (fun e => ⟨by simp only [percentT, e, Bool.false_eq_true, if_false], X2⟩) (fun e => ?_)⟩
  have hgoal : percentT [.bool a0, .ints az, .int a2] = decT (dnn (lowM ((val az).toNat * 100) a2.toNat) (lowS ((val az).toNat * 100) a2.toNat)) ++ S [37] := by simp only [percentT, e, if_true]
  obtain ⟨m, t, rfl, rfl, rfl, ht, em, et, hm⟩ := taxOk_nn e
  rw [hgoal, em, et]
  have l1 := one_len hm; have l2 := hundred_len hm
  have h100 : (digs 100).length ≤ 1 := one_len (by decide)
  have lM : (digs (lowM (m * 100) t)).length ≤ 2 := Nat.le_trans (digs_mono_len (lowM_le _ _)) l2
  have hr2 : Reps w2 [.bool false, .slice ap an ac, .int .i64 (t : Int)] (dnn m t) := hr.ext X2
  have fin : ∀ q, decT q = decT q := fun _ => rfl
  have D := Ext.drew w2
  have q0 := bk.ext D
  refine ⟨_, _, _, _, _, fun W hW => (q0.ext hW).loadA0 (by kernel_rfl), ?_⟩
  intro ss w3 f1
  refine Ret.at (impl_IntOf_c (n := 100) (by omega) (by omega)) ?_
  rintro v w4 ⟨vs4, f4, hv, ho4, _, y4⟩
  subst hv
  have e100 : enc 100 = [.bool false, .ints (digs 100)] := enc_nat 100
  rw [e100] at ho4
  obtain ⟨g0, gp, gn, gc, gz, rfl, hg, hgi⟩ := open_Signed ho4.reps rfl
  simp only [List.cons.injEq, D0.bool.injEq, D0.ints.injEq, and_true] at hg
  obtain ⟨rfl, rfl⟩ := hg
  refine ⟨_, _, _, _, rfl, y4, ?_⟩
  intro ss1 w5 f2
  have Y5 := (f1.ext.trans y4).trans f2.ext
  have hd5 : Reps w5 [.bool false, .slice gp gn gc, .int .i64 0] (dnn 100 0) := ⟨rfl, ⟨_, _, _, rfl, hgi.ext f2.ext⟩, rfl, trivial⟩
  refine Ret.at (impl_DecMul_n (hr2.ext (D.trans Y5)) hd5 (by omega) (by omega) ⟨by omega, by omega⟩ ⟨by omega, by omega⟩ (by omega) (by omega)) ?_
  rintro v w6 ⟨vs6, f6, hv, ho6, y6⟩
  subst hv
  rw [Int.add_zero] at ho6
  have hp6 := ho6.reps
  obtain ⟨d0, dp, dn, dc, dz, ds, rfl, hde, hdi⟩ := open_Dec hp6 rfl
  have hde' := hde
  simp only [dnn, List.cons.injEq, D0.bool.injEq, D0.ints.injEq, D0.int.injEq, and_true] at hde'
  obtain ⟨rfl, rfl, rfl⟩ := hde'
  refine ⟨_, _, _, _, _, _, rfl, ?_⟩
  intro ss2 w7 r7 f3 g3
  have Y7 := (Y5.trans y6).trans f3.ext
  have hb7 : Blk w7 r7 T_impl_Dec [.bool false, .slice none 0 0, .int .i64 0] := by
    have len0 := f1.len; have len1 := f2.len
    cases hs : ss[0]? with
    | none =>
      rw [List.getElem?_eq_none_iff, len0] at hs
      simp at hs
    | some v =>
      cases v with
      | some q =>
        obtain ⟨_, hq⟩ := f1.got (k := 0) rfl rfl hs
        have e := (f3.keeps (f2.keeps hs)).symm.trans g3
        have e : q = r7 := by simpa using e
        rw [e] at hq
        exact Blk.ext (show Blk w3 r7 T_impl_Dec [.bool false, .slice none 0 0, .int .i64 0] from hq) (((y4.trans f2.ext).trans y6).trans f3.ext)
      | none =>
        cases hs1 : ss1[0]? with
        | none =>
          rw [List.getElem?_eq_none_iff, len1, len0] at hs1
          simp at hs1
        | some v1 =>
          cases v1 with
          | some q =>
            obtain ⟨_, hq⟩ := f2.got (k := 0) hs rfl hs1
            have e := (f3.keeps hs1).symm.trans g3
            have e : q = r7 := by simpa using e
            rw [e] at hq
            exact Blk.ext (show Blk w5 r7 T_impl_Dec [.bool false, .slice none 0 0, .int .i64 0] from hq) (y6.trans f3.ext)
          | none => exact (f3.got (k := 0) hs1 rfl g3).2
  have hr7 : w2.drew.heap.size ≤ r7 := by
    have len0 := f1.len; have len1 := f2.len
    cases hs : ss[0]? with
    | none =>
      rw [List.getElem?_eq_none_iff, len0] at hs
      simp at hs
    | some v =>
      cases v with
      | some q =>
        obtain ⟨b, _⟩ := f1.got (k := 0) rfl rfl hs
        have e := (f3.keeps (f2.keeps hs)).symm.trans g3
        have e : q = r7 := by simpa using e
        omega
      | none =>
        cases hs1 : ss1[0]? with
        | none =>
          rw [List.getElem?_eq_none_iff, len1, len0] at hs1
          simp at hs1
        | some v1 =>
          cases v1 with
          | some q =>
            obtain ⟨b, _⟩ := f2.got (k := 0) hs rfl hs1
            have e := (f3.keeps hs1).symm.trans g3
            have e : q = r7 := by simpa using e
            have := (f1.ext.trans y4).le
            omega
          | none =>
            have b := (f3.got (k := 0) hs1 rfl g3).1
            have := (Y5.trans y6).le
            omega
  obtain ⟨w8, st8, hb8, ch, sz⟩ := hb7.storeA0 (P := P) (t := T_impl_Dec) (xs := [.bool false, .slice dp dn dc, .int .i64 (t : Int)]) (by kernel_rfl) rfl (by simp [Value.oneCell'])
  have Z8 : Ext w w8 := (X2.trans (D.trans Y7)).chg ch (by
    have := (X2.trans D).le
    simp; omega)
  have hp8 : Reps w8 [.bool false, .slice dp dn dc, .int .i64 (t : Int)] (dnn (m * 100) t) := ⟨rfl, ⟨_, _, _, rfl, IntsR.store3 hb7 (hdi.ext f3.ext) ch⟩, rfl, trivial⟩
  refine ⟨w8, st8, _, _, _, _, _, hb8.loadA0 (by kernel_rfl), ?_⟩
  refine Ret.at (impl_DecLow_n hp8 (by omega) ht) ?_
  rintro v w9 ⟨vs9, hv, hp9, y9⟩
  subst hv
  have hp9' := hp9
  obtain ⟨e0, ep, en, ec, ez, es, rfl, _, _⟩ := open_Dec hp9' rfl
  refine ⟨_, _, _, _, _, rfl, ?_⟩
  refine Ret.at (impl_DecText_c hp9 rfl (hp.ext (Z8.trans y9))) ?_
  rintro v w10 ⟨hv, y10⟩
  subst hv
  have N := decT_size (dnn (lowM (m * 100) t) (lowS (m * 100) t))
  refine ⟨_, rfl, ?_, _, rfl, rfl, (Z8.trans y9).trans y10⟩
  show _ + 1 ≤ _
  omega
end Go.Proofs.YtpaekkcgphljoaaGreatDoor

namespace Go.Proofs.YtpaekkcgphljoaaGreatDoor
open Go Go.Proofs.YtpaekkcgphljoaaGreatDoor.Sx
set_option linter.unusedVariables false
set_option linter.unusedSimpArgs false
def stepFrom : List D0 → Int
  | .int n :: _ => n
  | _ => 0
def stepOk (l : List (List D0)) (i : Nat) : Bool := decide (0 ≤ stepFrom (l.getD i []) ∧ stepFrom (l.getD i []) ≤ 1000000000) && taxOk ((l.getD i []).drop 1) && !(decide (0 < i) && decide (stepFrom (l.getD i []) ≤ stepFrom (l.getD (i - 1) [])))
def stepsOk (l : List (List D0)) : Bool := decide (1 ≤ l.length ∧ l.length ≤ 8) && decide (stepFrom (l.getD 0 []) = 0) && (List.range l.length).all (stepOk l)
theorem steps_no {l : List (List D0)} {i : Nat} (hi : i < l.length) (h : stepOk l i = false) : stepsOk l = false := by
  unfold stepsOk
  have : (List.range l.length).all (stepOk l) = false := by
    rw [Bool.eq_false_iff]
    intro ha
    rw [List.all_eq_true] at ha
    have := ha i (List.mem_range.2 hi)
    rw [h] at this; cases this
  rw [this, Bool.and_false]
theorem steps_yes {l : List (List D0)} (h1 : 1 ≤ l.length ∧ l.length ≤ 8) (h2 : stepFrom (l.getD 0 []) = 0) (h : ∀ i < l.length, stepOk l i = true) : stepsOk l = true := by
  unfold stepsOk
  have : (List.range l.length).all (stepOk l) = true := by
    rw [List.all_eq_true]
    exact fun i hi => h i (List.mem_range.1 hi)
  rw [this, decide_eq_true h1, decide_eq_true h2]; rfl
theorem getD_lt {α : Type} {l : List α} {i : Nat} {d : α} (h : i < l.length) : l.getD i d = l[i] := by
  rw [List.getD_eq_getElem?_getD, List.getElem?_eq_getElem h]; rfl
theorem spec_StepsOk_c {w : World} {p : Option Addr} {n c : Nat} {l : List (List D0)} (h : RowsR w 4 p n c l) (hc : ∀ x ∈ l, x.map D0.code = [.int, .bool, .ints, .int]) :
    Ret P n_spec_StepsOk [.slice p n c] w fun v w' => v = .bool (stepsOk l) ∧ Ext w w' := by
  have hz := h.1; have hcap := h.2.1; have hcm := h.2.2.1
  refine spec_StepsOk_ret ?_
  unfold spec_StepsOk
  refine Ret.at (spec_l01In_c _ _ _ w) ?_
  rintro v w1 ⟨hv, hw⟩
  subst hv; subst hw
  refine ⟨_, rfl, ifN (fun hno => ifT ⟨?_, Ext.refl _⟩) (fun hok => ?_)⟩
  · have hno := of_decide_eq_false hno
    unfold stepsOk
    rw [show decide (1 ≤ l.length ∧ l.length ≤ 8) = false by simp; omega]
    rfl
  have hok := of_decide_eq_true hok
  have hlen : 1 ≤ l.length ∧ l.length ≤ 8 := by omega
  obtain ⟨a, cs, hp, hk, hr, hl⟩ := h.at (P := P) (t := T_impl_Step) (by kernel_rfl) (i := 0) (by omega)
  obtain ⟨b, off, hpp, hs⟩ := h.2.2.2 (by omega)
  have first : ∀ i (hi : i < l.length), ∀ W, Ext w1 W → Loads P T_int (((⟨b, off, none⟩ : Addr).add (i * 4)).add 0) (.int .i64 (stepFrom (l.getD i []))) W := by
    intro i hi W hW
    obtain ⟨cs, hk, hr, hsg⟩ := hs i _ (List.getElem?_eq_getElem hi)
    obtain ⟨a0, a1, a2p, a2n, a2c, a2z, a3, rfl, hd, _⟩ := open_Step hr (hc _ (List.getElem_mem hi))
    rw [getD_lt hi, hd]
    exact (hsg.ext hW).loadAt 0 (by simp [Addr.add]) (by kernel_rfl) rfl
  subst hpp
  refine ⟨⟨by omega, by omega⟩, _, by simpa using first 0 (by omega) w1 (Ext.refl _), ifD (fun hne => ⟨?_, Ext.refl _⟩) (fun he => ?_)⟩
  · unfold stepsOk
    rw [show decide (stepFrom (l.getD 0 []) = 0) = false by simpa using hne, Bool.and_false]
    rfl
  have he : stepFrom (l.getD 0 []) = 0 := by simpa using he
  unfold spec_StepsOk_j0
  refine ⟨fun i wr => ∃ j : Nat, i = j ∧ j ≤ n ∧ Ext w1 wr ∧ ∀ i < j, stepOk l i = true, fun i _ => n - i.toNat, ⟨0, rfl, by omega, Ext.refl _, by simp⟩, ?_⟩
  intro junk wr i ⟨j, hij, hj, hx, hall⟩
  subst hij
  refine ifD (fun hlt => ?_) (fun hge => ⟨?_, hx⟩)
  · have hjn : j < n := by omega
    have hjl : j < l.length := by omega
    obtain ⟨a, cs, hp, hk, hr, hl⟩ := (h.ext hx).at (P := P) (t := T_impl_Step) (by kernel_rfl) hjn
    cases hp
    have hrr := hr; have hcode := hc _ (List.getElem_mem hjl)
    obtain ⟨a0, a1, a2p, a2n, a2c, a2z, a3, rfl, hd, ha⟩ := open_Step hr hcode
    have hgd : l.getD j [] = [.int a0, .bool a1, .ints a2z, .int a3] := by rw [getD_lt hjl, hd]
    refine ⟨⟨by omega, by omega⟩, _, _, _, _, _, _, by simpa using hl, ?_⟩
    intro r w2 hn2
    obtain ⟨w3, st, hb3, y3⟩ := hn2.fill (P := P) (t := T_impl_Step) hrr.cells1 (by kernel_rfl) rfl
    have D := Ext.drew w3
    have x3 := (hx.trans y3).trans D
    have hb4 := hb3.ext D
    refine ⟨w3, st, _, fun W hW => (hb4.ext hW).loadAt 0 rfl (by kernel_rfl) rfl, ?_⟩
    refine Ret.at (spec_l01In_c _ _ _ _) ?_
    rintro v w4 ⟨hv, hw⟩
    subst hv; subst hw
    refine ⟨_, rfl, ifN (fun hno => ifT (ifT ⟨?_, x3⟩)) (fun hin => ?_)⟩
    · rw [steps_no hjl]
      simp only [stepOk, hgd, stepFrom, hno, Bool.false_and]
    refine ⟨_, _, _, _, _, fun W hW => (hb4.ext hW).loadAAt 1 [.bool a1, .slice a2p a2n a2c, .int .i64 a3] rfl (by kernel_rfl) rfl, ?_⟩
    have hdec : Reps w3.drew [.bool a1, .slice a2p a2n a2c, .int .i64 a3] [.bool a1, .ints a2z, .int a3] := ⟨rfl, ⟨_, _, _, rfl, ha.ext (y3.trans D)⟩, rfl, trivial⟩
    refine Ret.at (spec_TaxRateOk_c hdec rfl) ?_
    rintro v w5 ⟨hv, y5⟩
    subst hv
    have x5 := x3.trans y5
    have next : ∀ W, Ext w1 W → stepOk l j = true → ∃ t48 : Int, t48 = IntKind.wrap .i64 ((j : Int) + 1) ∧ (fun (i : Int) (wr : World) => ∃ j : Nat, i = j ∧ j ≤ n ∧ Ext w1 wr ∧ ∀ i < j, stepOk l i = true) t48 W ∧ (fun (i : Int) (_ : World) => n - i.toNat) t48 W < (fun (i : Int) (_ : World) => n - i.toNat) (j : Int) wr := by
      intro W hW hs
      refine exW ⟨by omega, by omega⟩ ⟨⟨j + 1, by omega, by omega, hW, fun i hi => ?_⟩, ?_⟩
      · rcases Nat.lt_or_ge i j with h | h
        · exact hall i h
        · have : i = j := by omega
          subst this; exact hs
      · show n - ((j : Int) + 1).toNat < n - (j : Int).toNat
        omega
    refine ⟨_, rfl, ifN (fun hno => ifT ⟨?_, x5⟩) (fun htax => ?_)⟩
    · rw [steps_no hjl]
      simp only [stepOk, hgd, stepFrom, List.drop_succ_cons, List.drop_zero, hno, Bool.and_false, Bool.false_and]
    refine ifD (fun hpos => ?_) (fun hzero => ifF (next _ x5 ?_))
    · refine exW ⟨by omega, by omega⟩ ⟨⟨by omega, by omega⟩, stepFrom (l.getD (j - 1) []), fun W hW => ?_, _, fun W hW => ((hb4.ext y5).ext hW).loadAt 0 rfl (by kernel_rfl) rfl, ifD (fun hle => ⟨?_, x5⟩) (fun hgt => next _ x5 ?_)⟩
      · have := first (j - 1) (by omega) W (x5.trans hW)
        rw [show ((j : Int) - 1).toNat = j - 1 by omega]
        exact this
      · rw [steps_no hjl]
        simp only [stepOk, hgd]
        rw [decide_eq_true (show stepFrom [.int a0, .bool a1, .ints a2z, .int a3] ≤ stepFrom (l.getD (j - 1) []) from hle), decide_eq_true (show 0 < j by omega)]
        simp
      · simp only [stepOk, hgd]
        rw [decide_eq_false (show ¬ stepFrom [.int a0, .bool a1, .ints a2z, .int a3] ≤ stepFrom (l.getD (j - 1) []) from hgt)]
        simp only [stepFrom, List.drop_succ_cons, List.drop_zero, htax, Bool.and_false, Bool.not_false, Bool.and_true]
        exact hin
    · have h0 : j = 0 := by omega
      subst h0
      simp only [stepOk, hgd, stepFrom, List.drop_succ_cons, List.drop_zero, htax, Nat.lt_irrefl, decide_false, Bool.false_and, Bool.not_false, Bool.and_true]
      exact hin
  · rw [steps_yes hlen he (fun i hi => hall i (by omega))]
theorem impl_StepsOk_c {w : World} {p : Option Addr} {n c : Nat} {l : List (List D0)} (h : RowsR w 4 p n c l) (hc : ∀ x ∈ l, x.map D0.code = [.int, .bool, .ints, .int]) :
    Ret P n_impl_StepsOk [.slice p n c] w fun v w' => v = .bool (stepsOk l) ∧ Ext w w' := by
  have hz := h.1; have hcap := h.2.1; have hcm := h.2.2.1
  refine impl_StepsOk_ret ?_
  unfold impl_StepsOk
  have bad : ¬ (1 ≤ l.length ∧ l.length ≤ 8) → stepsOk l = false := fun hno => by
    unfold stepsOk
    rw [show decide (1 ≤ l.length ∧ l.length ≤ 8) = false by simpa using hno]
    rfl
  refine ifD (fun hlt => ifT (ifT ⟨by rw [bad (by omega)], Ext.refl _⟩)) (fun hge1 => ifD (fun hgt => ifT ⟨by rw [bad (by omega)], Ext.refl _⟩) (fun hle8 => ?_))
  have hlen : 1 ≤ l.length ∧ l.length ≤ 8 := by omega
  obtain ⟨b, off, hpp, hs⟩ := h.2.2.2 (by omega)
  have first : ∀ i (hi : i < l.length), ∀ W, Ext w W → Loads P T_int (((⟨b, off, none⟩ : Addr).add (i * 4)).add 0) (.int .i64 (stepFrom (l.getD i []))) W := by
    intro i hi W hW
    obtain ⟨cs, hk, hr, hsg⟩ := hs i _ (List.getElem?_eq_getElem hi)
    obtain ⟨a0, a1, a2p, a2n, a2c, a2z, a3, rfl, hd, _⟩ := open_Step hr (hc _ (List.getElem_mem hi))
    rw [getD_lt hi, hd]
    exact (hsg.ext hW).loadAt 0 (by simp [Addr.add]) (by kernel_rfl) rfl
  subst hpp
  refine ⟨⟨by omega, by omega⟩, _, by simpa using first 0 (by omega) w (Ext.refl _), ifD (fun hne => ⟨?_, Ext.refl _⟩) (fun he => ?_)⟩
  · unfold stepsOk
    rw [show decide (stepFrom (l.getD 0 []) = 0) = false by simpa using hne, Bool.and_false]
    rfl
  have he : stepFrom (l.getD 0 []) = 0 := by simpa using he
  unfold impl_StepsOk_j0
  refine ⟨fun i wr => ∃ j : Nat, i = j ∧ j ≤ n ∧ Ext w wr ∧ ∀ i < j, stepOk l i = true, fun i _ => n - i.toNat, ⟨0, rfl, by omega, Ext.refl _, by simp⟩, ?_⟩
  intro junk wr i ⟨j, hij, hj, hx, hall⟩
  subst hij
  refine ifD (fun hlt => ?_) (fun hge => ⟨?_, hx⟩)
  · have hjn : j < n := by omega
    have hjl : j < l.length := by omega
    obtain ⟨a, cs, hp, hk, hr, hl⟩ := (h.ext hx).at (P := P) (t := T_impl_Step) (by kernel_rfl) hjn
    cases hp
    have hrr := hr; have hcode := hc _ (List.getElem_mem hjl)
    obtain ⟨a0, a1, a2p, a2n, a2c, a2z, a3, rfl, hd, ha⟩ := open_Step hr hcode
    have hgd : l.getD j [] = [.int a0, .bool a1, .ints a2z, .int a3] := by rw [getD_lt hjl, hd]
    have hprev : 0 < j → 0 ≤ stepFrom (l.getD (j - 1) []) := fun h0 => by
      have := hall (j - 1) (by omega)
      simp only [stepOk, Bool.and_eq_true, decide_eq_true_eq] at this
      exact this.1.1.1
    have h00 : j = 0 → a0 = 0 := fun h0 => by
      subst h0
      rw [hgd] at he; exact he
    refine ⟨⟨by omega, by omega⟩, _, _, _, _, _, _, by simpa using hl, ?_⟩
    intro r w2 hn2
    obtain ⟨w3, st, hb3, y3⟩ := hn2.fill (P := P) (t := T_impl_Step) hrr.cells1 (by kernel_rfl) rfl
    have D := Ext.drew w3
    have x3 := (hx.trans y3).trans D
    have hb4 := hb3.ext D
    have next : ∀ W, Ext w W → stepOk l j = true → ∃ t48 : Int, t48 = IntKind.wrap .i64 ((j : Int) + 1) ∧ (fun (i : Int) (wr : World) => ∃ j : Nat, i = j ∧ j ≤ n ∧ Ext w wr ∧ ∀ i < j, stepOk l i = true) t48 W ∧ (fun (i : Int) (_ : World) => n - i.toNat) t48 W < (fun (i : Int) (_ : World) => n - i.toNat) (j : Int) wr := by
      intro W hW hs
      refine exW ⟨by omega, by omega⟩ ⟨⟨j + 1, by omega, by omega, hW, fun i hi => ?_⟩, ?_⟩
      · rcases Nat.lt_or_ge i j with h | h
        · exact hall i h
        · have : i = j := by omega
          subst this; exact hs
      · show n - ((j : Int) + 1).toNat < n - (j : Int).toNat
        omega
    have hdec : Reps w3.drew [.bool a1, .slice a2p a2n a2c, .int .i64 a3] [.bool a1, .ints a2z, .int a3] := ⟨rfl, ⟨_, _, _, rfl, ha.ext (y3.trans D)⟩, rfl, trivial⟩
    -- the rate, when the rest is well
    have rate : (0 ≤ a0 ∧ a0 ≤ 1000000000) → (0 < j → stepFrom (l.getD (j - 1) []) < a0) → ∃ (t470 : Bool) (t471_p : Option Addr) (t471_n : Nat) (t471_c : Nat) (t472 : Int), (∀ wv_8, Ext w3.drew wv_8 → Loads P T_impl_Dec ((⟨r, 0, none⟩ : Addr).add 1) (.agg #[(.bool t470), (.slice t471_p t471_n t471_c), (.int .i64 t472)]) wv_8) ∧ Calls P n_impl_TaxRateOk ⟨[(.agg #[(.bool t470), (.slice t471_p t471_n t471_c), (.int .i64 t472)])]⟩ w3.drew fun e_1 wv_9 =>
        ∃ (t48 : Bool), e_1 = .returned (.bool t48) ∧
        ((!t48) = true → (fun (v : Value) (w' : World) => v = .bool (stepsOk l) ∧ Ext w w') (.bool false) wv_9) ∧
        ((!t48) = false → ∃ t51 : Int, t51 = IntKind.wrap .i64 ((j : Int) + 1) ∧ (fun (i : Int) (wr : World) => ∃ j : Nat, i = j ∧ j ≤ n ∧ Ext w wr ∧ ∀ i < j, stepOk l i = true) t51 wv_9 ∧ (fun (i : Int) (_ : World) => n - i.toNat) t51 wv_9 < (fun (i : Int) (_ : World) => n - i.toNat) (j : Int) wr) := by
      intro hin hgt
      refine ⟨_, _, _, _, _, fun W hW => (hb4.ext hW).loadAAt 1 [.bool a1, .slice a2p a2n a2c, .int .i64 a3] rfl (by kernel_rfl) rfl, ?_⟩
      refine Ret.at (impl_TaxRateOk_c hdec rfl) ?_
      rintro v w5 ⟨hv, y5⟩
      subst hv
      have x5 := x3.trans y5
      refine ⟨_, rfl, ifN (fun hno => ⟨?_, x5⟩) (fun htax => next _ x5 ?_)⟩
      · rw [steps_no hjl]
        simp only [stepOk, hgd, stepFrom, List.drop_succ_cons, List.drop_zero, hno, Bool.and_false, Bool.false_and]
      · have hg : (decide (0 < j) && decide (a0 ≤ stepFrom (l.getD (j - 1) []))) = false := by
          simp only [Bool.and_eq_false_iff, decide_eq_false_iff_not]
          rcases Nat.eq_zero_or_pos j with h | h
          · exact .inl (by omega)
          · have := hgt h; exact .inr (by omega)
        unfold stepOk
        rw [hgd, show (decide (0 < j) && decide (stepFrom [D0.int a0, .bool a1, .ints a2z, .int a3] ≤ stepFrom (l.getD (j - 1) []))) = false from hg]
        simp only [stepFrom, List.drop_succ_cons, List.drop_zero, htax, Bool.not_false, Bool.and_true]
        exact decide_eq_true hin
    refine ⟨w3, st, _, fun W hW => (hb4.ext hW).loadAt 0 rfl (by kernel_rfl) rfl, ifD (fun hbig => ifT (ifT ⟨?_, x3⟩)) (fun hsmall => ?_)⟩
    · rw [steps_no hjl]
      simp only [stepOk, hgd, stepFrom, show decide (0 ≤ a0 ∧ a0 ≤ 1000000000) = false by simp; omega, Bool.false_and]
    refine ifD (fun hpos => ?_) (fun hzero => ifF (rate ?_ ?_))
    · refine exW ⟨by omega, by omega⟩ ⟨⟨by omega, by omega⟩, stepFrom (l.getD (j - 1) []), fun W hW => ?_, _, fun W hW => (hb4.ext hW).loadAt 0 rfl (by kernel_rfl) rfl, ifD (fun hle => ifT ⟨?_, x3⟩) (fun hgt => rate ?_ ?_)⟩
      · have := first (j - 1) (by omega) W (x3.trans hW)
        rw [show ((j : Int) - 1).toNat = j - 1 by omega]
        exact this
      · rw [steps_no hjl]
        simp only [stepOk, hgd]
        rw [decide_eq_true (show stepFrom [.int a0, .bool a1, .ints a2z, .int a3] ≤ stepFrom (l.getD (j - 1) []) from hle), decide_eq_true (show 0 < j by omega)]
        simp
      · have := hprev (by omega)
        omega
      · intro _; omega
    · have := h00 (by omega)
      omega
    · intro h0; omega
  · rw [steps_yes hlen he (fun i hi => hall i (by omega))]
end Go.Proofs.YtpaekkcgphljoaaGreatDoor

namespace Go.Proofs.YtpaekkcgphljoaaGreatDoor
open Go Go.Proofs.YtpaekkcgphljoaaGreatDoor.Sx
set_option linter.unusedVariables false
set_option linter.unusedSimpArgs false
/-- a slice of texts -/
def StrsR (w : World) (p : Option Addr) (n c : Nat) (l : List ByteArray) : Prop :=
  l.length = n ∧ n ≤ c ∧ c ≤ 9223372036854775807 ∧ (0 < n → ∃ b off, p = some ⟨b, off, none⟩ ∧ Seg w b off (l.map Value.string))
theorem StrsR.ext {w w' : World} {p : Option Addr} {n c : Nat} {l : List ByteArray} (h : StrsR w p n c l) (he : Ext w w') : StrsR w' p n c l :=
  ⟨h.1, h.2.1, h.2.2.1, fun hn => let ⟨b, off, hp, hs⟩ := h.2.2.2 hn; ⟨b, off, hp, hs.ext he⟩⟩
theorem StrsR.at {P : Program} {w : World} {p : Option Addr} {n c k : Nat} {l : List ByteArray} (h : StrsR w p n c l) {t : TypeId} (ht : cellT P t = true) (hk : k < n) :
    ∃ a, p = some a ∧ Loads P t (a.add (k * 1)) (.string (l[k]'(by rw [h.1]; exact hk))) w := by
  obtain ⟨b, off, hp, hs⟩ := h.2.2.2 (by omega)
  refine ⟨_, hp, ?_⟩
  rw [Nat.mul_one]
  exact hs.load ht (by simp [List.getElem?_eq_getElem (by rw [h.1]; exact hk : k < l.length)])
theorem own_strs {w : World} {base : Nat} {e : TypeId} {p : Option Addr} {n c : Nat} {l : List ByteArray} (h : Own w base e 1 p n c (l.map Value.string)) : StrsR w p n c l :=
  ⟨by simpa using h.len, h.le, h.capLe, fun hn => let ⟨b, hp, _, hs⟩ := h.seg hn; ⟨b, 0, hp, hs⟩⟩
theorem sliceT_string : sliceT P T_s_string T_string (.string ByteArray.empty) 1 16 := ⟨by kernel_rfl, by kernel_rfl, rfl, by decide⟩
/-- texts with another between them -/
def joinT (by' : ByteArray) (l : List ByteArray) : ByteArray := ⟨(Lib.join (l.map (·.data.toList)) by'.data.toList).toArray⟩
theorem joinT_nil (b : ByteArray) : joinT b [] = ByteArray.empty := rfl
theorem joinT_one (b x : ByteArray) : joinT b [x] = x := ba_ext (by simp [joinT, Lib.join_one])
theorem joinT_snoc {b x : ByteArray} : ∀ {l : List ByteArray}, l ≠ [] → joinT b (l ++ [x]) = (joinT b l ++ b) ++ x
  | [], h => absurd rfl h
  | y :: r, _ => ba_ext (by simp [joinT, Lib.join_cons, Lib.joinTail])
theorem joinT_size {b : ByteArray} {k : Nat} : ∀ {l : List ByteArray}, (∀ x ∈ l, x.size ≤ k) → (joinT b l).size ≤ l.length * (k + b.size) := by
  intro l
  have key : ∀ (n : Nat) (l : List ByteArray), l.length = n → (∀ x ∈ l, x.size ≤ k) → (joinT b l).size ≤ l.length * (k + b.size) := by
    intro n
    induction n with
    | zero =>
      intro l hl _
      rw [List.eq_nil_of_length_eq_zero hl, joinT_nil]
      show 0 ≤ _
      omega
    | succ n ih =>
      intro l hl hx
      have hne : l ≠ [] := by intro e; rw [e] at hl; simp at hl
      have hl2 := List.dropLast_concat_getLast hne
      have hd : l.dropLast.length = n := by simp [hl]
      have h1 := ih l.dropLast hd fun x hx' => hx x ((List.dropLast_sublist l).subset hx')
      have h2 := hx _ (List.getLast_mem hne)
      by_cases h0 : l.dropLast = []
      · rw [h0, List.nil_append] at hl2
        rw [← hl2, joinT_one]
        simp only [List.length_cons, List.length_nil]
        omega
      · rw [← hl2, joinT_snoc h0, ByteArray.size_append, ByteArray.size_append, List.length_append, List.length_singleton, hd]
        rw [hd] at h1
        rw [Nat.succ_mul]
        omega
  exact key _ l rfl
theorem spec_Join_c {w : World} {p : Option Addr} {n c : Nat} {l : List ByteArray} (h : StrsR w p n c l) (b : ByteArray) {k : Nat} (hk : ∀ x ∈ l, x.size ≤ k) (hb : n * (k + b.size) ≤ 140737488355328) :
    Ret P n_spec_Join [.slice p n c, .string b] w fun v w' => v = .string (joinT b l) ∧ Ext w w' := by
  have hz := h.1; have hcap := h.2.1; have hcm := h.2.2.1
  refine spec_Join_ret ?_
  unfold spec_Join
  have fit : ∀ j ≤ n, (joinT b (l.take j)).size ≤ j * (k + b.size) := fun j hj => by
    have := joinT_size (b := b) (k := k) (l := l.take j) fun x hx => hk x (List.mem_of_mem_take hx)
    rwa [List.length_take, Nat.min_eq_left (by omega)] at this
  have mono : ∀ j ≤ n, j * (k + b.size) ≤ 140737488355328 := fun j hj => Nat.le_trans (Nat.mul_le_mul_right _ hj) hb
  refine ⟨fun s i wr => ∃ j : Nat, i = j ∧ j ≤ n ∧ s = joinT b (l.take j) ∧ Ext w wr, fun _ i _ => n - i.toNat, ⟨0, rfl, by omega, rfl, Ext.refl _⟩, ?_⟩
  intro junk wr s i ⟨j, hij, hj, hs, hx⟩
  subst hij
  have hf := fit j hj; have hm := mono j hj
  refine ifD (fun hlt => ?_) (fun hge => ⟨by rw [hs, List.take_of_length_le (by omega)], hx⟩)
  have hjn : j < n := by omega
  have hjl : j < l.length := by omega
  obtain ⟨a, hp', hl⟩ := (h.ext hx).at (P := P) (t := T_string) (by kernel_rfl) hjn
  subst hp'
  have hf1 := fit (j + 1) hjn; have hm1 := mono (j + 1) hjn
  have hjk := hk _ (List.getElem_mem hjl)
  have htk : l.take (j + 1) = l.take j ++ [l[j]'hjl] := by rw [List.take_add_one, List.getElem?_eq_getElem hjl]; rfl
  refine ⟨⟨by omega, by omega⟩, _, by simpa using hl, ifD (fun hpos => ⟨?_, _, rfl, ?_⟩) (fun h0 => ?_)⟩
  · have hj0 : (l.take j) ≠ [] := by
      intro e
      have := congrArg List.length e
      rw [List.length_take, List.length_nil] at this
      omega
    have hsn : joinT b (l.take (j + 1)) = (joinT b (l.take j) ++ b) ++ l[j]'hjl := by rw [htk, joinT_snoc hj0]
    rw [hsn, ByteArray.size_append, ByteArray.size_append] at hf1
    rw [hs]; omega
  · have hj0 : (l.take j) ≠ [] := by
      intro e
      have := congrArg List.length e
      rw [List.length_take, List.length_nil] at this
      omega
    have hsn : joinT b (l.take (j + 1)) = (joinT b (l.take j) ++ b) ++ l[j]'hjl := by rw [htk, joinT_snoc hj0]
    unfold spec_Join_j0
    have hf2 := hf1
    rw [hsn, ByteArray.size_append] at hf2
    refine ⟨?_, _, rfl, exW ⟨by omega, by omega⟩ ⟨⟨j + 1, by omega, by omega, ?_, hx⟩, ?_⟩⟩
    · rw [hs]; omega
    · rw [hsn, hs]
    · show n - ((j : Int) + 1).toNat < n - (j : Int).toNat
      omega
  · have hj0 : j = 0 := by omega
    subst hj0
    have hsn : joinT b (l.take (0 + 1)) = l[0]'hjl := by rw [htk, List.take_zero, List.nil_append, joinT_one]
    have hs0 : s = ByteArray.empty := by rw [hs, List.take_zero]; rfl
    unfold spec_Join_j0
    refine ⟨?_, _, rfl, exW ⟨by omega, by omega⟩ ⟨⟨1, by omega, by omega, ?_, hx⟩, ?_⟩⟩
    · rw [hs0]
      rw [hsn] at hf1
      show 0 + _ ≤ _
      omega
    · rw [show l.take 1 = l.take (0 + 1) from rfl, hsn, hs0, ba_empty_append]
    · show n - (((0 : Nat) : Int) + 1).toNat < n - ((0 : Nat) : Int).toNat
      omega
theorem X156 : Go.Proofs.Builder.Extra P ren156 where
  sizeBuilder := by kernel_rfl
  liesBuilder := by kernel_rfl
  t5 := lays105.t5
  a5 := lays105.a5
  z5 := lays105.z5
  v5 := lays105.v5
  infoByte := by kernel_rfl
  cellsByte := by kernel_rfl
  sizeByte := by kernel_rfl
  neB5 := by decide
theorem impl_Join_c {w : World} {p : Option Addr} {n c : Nat} {l : List ByteArray} (h : StrsR w p n c l) (b : ByteArray) {k : Nat} (hk : ∀ x ∈ l, x.size ≤ k) (hb : n * (k + b.size) ≤ 140737488355328) (hn : n ≤ 140737488355328) :
    Ret P n_impl_Join [.slice p n c, .string b] w fun v w' => v = .string (joinT b l) ∧ Ext w w' := by
  refine impl_Join_ret ?_
  unfold impl_Join
  have hz := h.1; have hcap := h.2.1
  have hsz := joinT_size (b := b) hk
  rw [hz] at hsz
  have hlen : (Lib.join (l.map (·.data.toList)) b.data.toList).length ≤ 140737488355328 := by
    have : (joinT b l).size = (Lib.join (l.map (·.data.toList)) b.data.toList).length := by simp [joinT, ByteArray.size]
    omega
  rcases Nat.eq_zero_or_pos n with h0 | h0
  · subst h0
    have : l = [] := List.eq_nil_of_length_eq_zero hz
    subst this
    refine (Any.strings_Join_none lays156 X156 p c b w).mono ?_
    rintro e w' ⟨rfl, rfl⟩
    exact ⟨_, rfl, rfl, Ext.refl _⟩
  · obtain ⟨r, o, rfl, hs⟩ := h.2.2.2 h0
    have hcells : ∀ (j : Nat) x, l[j]? = some x → w.cell? ⟨r, o + j, none⟩ = some (.string x) := fun j x hx => hs j _ (by simp [hx])
    have hbk : r < w.heap.size := World.block_lt_of_cell? w _ (hcells 0 _ (List.getElem?_eq_getElem (by omega)))
    have := Any.strings_Join lays156 X156 r o c l b w hcells hbk (by omega) (by omega) hlen
    rw [hz] at this
    refine this.mono ?_
    rintro e w' ⟨rfl, hx⟩
    exact ⟨_, rfl, rfl, hx⟩
end Go.Proofs.YtpaekkcgphljoaaGreatDoor
