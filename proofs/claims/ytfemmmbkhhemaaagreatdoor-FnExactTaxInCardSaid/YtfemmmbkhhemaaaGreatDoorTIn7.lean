/-
  Parts of the proof of taxIn_holds: CMoneyAS, CTaxRateOk, CRatMoney, CPercentL, CTaxOn, CNextRow, CTaxIn, SxFlS, WTaxIn, SxRow, SxOpen, CTab.
  Conditions: none.
-/
import Derived.ProofKit
import Derived.Deep.Slices
import Derived.Test.YtfemmmbkhhemaaaGreatDoorRows
import Derived.OpenShut
import Derived.Lib.LaidTab
import Derived.Test.YtfemmmbkhhemaaaGreatDoorTIn6

namespace Go.Proofs.YtfemmmbkhhemaaaGreatDoor
open Go Go.Proofs.YtfemmmbkhhemaaaGreatDoor.Sx
set_option linter.unusedVariables false
set_option linter.unusedSimpArgs false
/-- two amounts of one currency -/
def alk : List D0 → List D0 → Bool
  | [.str c, .bool b, .ints z], [.str c2, .bool b2, .ints z2] => moneyOk [.str c, .bool b, .ints z] && (moneyOk [.str c2, .bool b2, .ints z2] && decide (c = c2))
  | _, _ => false
/-- what is made of two amounts of one currency and an integer -/
def mres (al : Bool) (c : ByteArray) (z : Int) : Bool × List D0 := if al then (moneyOk (.str c :: enc z), moneyMk c z) else (false, zeroMoney)
theorem mres_code (al : Bool) (c : ByteArray) (z : Int) : (mres al c z).2.map D0.code = [.str, .bool, .ints] := by
  unfold mres
  split
  · exact moneyMk_code _ _
  · rfl
theorem alk_parts {c c2 : ByteArray} {b b2 : Bool} {z z2 : List Int} (h : alk [.str c, .bool b, .ints z] [.str c2, .bool b2, .ints z2] = true) : moneyOk [.str c, .bool b, .ints z] = true ∧ moneyOk [.str c2, .bool b2, .ints z2] = true ∧ c = c2 := by
  simpa [alk] using h
theorem impl_intAdd_n {w : World} {xs ys : List Value} {x y : Int} (h : Reps w xs (enc x)) (k : Reps w ys (enc y)) (hx : x.natAbs ≤ 1000000000000000000000000000000000000) (hy : y.natAbs ≤ 1000000000000000000000000000000000000) :
    Ret P n_impl_intAdd [.agg ⟨xs⟩, .agg ⟨ys⟩] w fun v w' => ∃ vs f, v = .agg ⟨vs⟩ ∧ Owns w' w.heap.size vs (enc (x + y)) f ∧ f.Nodup ∧ Ext w w' := by
  have d1 : (digs x.natAbs).length ≤ 6 := digs_len_le (by omega)
  have d2 : (digs y.natAbs).length ≤ 6 := digs_len_le (by omega)
  exact (impl_intAdd_c h k (by omega) (by omega)).mono fun v w' ⟨p, n, c, hv, ho, hx⟩ => ⟨_, _, hv, Owns.int2 ho, nodup_opt p, hx⟩
theorem spec_IntSub_n {w : World} {xs ys : List Value} {x y : Int} (h : Reps w xs (enc x)) (k : Reps w ys (enc y)) (hx : x.natAbs ≤ 1000000000000000000000000000000000000) (hy : y.natAbs ≤ 1000000000000000000000000000000000000) :
    Ret P n_spec_IntSub [.agg ⟨xs⟩, .agg ⟨ys⟩] w fun v w' => ∃ vs f, v = .agg ⟨vs⟩ ∧ Owns w' w.heap.size vs (enc (x - y)) f ∧ f.Nodup ∧ Ext w w' := by
  have d1 : (digs x.natAbs).length ≤ 6 := digs_len_le (by omega)
  have d2 : (digs (-y).natAbs).length ≤ 6 := digs_len_le (by omega)
  have d3 : (digs (x + -y).natAbs).length ≤ 6 := digs_len_le (by omega)
  have hr := h; have kr := k
  obtain ⟨a0, ap, an, ac, az, rfl, hd, ha⟩ := open_Signed h (enc_code _)
  obtain ⟨b0, bp, bn, bc, bz, rfl, he, hb⟩ := open_Signed k (enc_code _)
  refine spec_IntSub_ret ?_
  unfold spec_IntSub
  intro r w1 hn1 r1 w2 hn2 r2 w3 hn3
  have e1 := hn1.r_eq; have e2 := hn2.r_eq; have e3 := hn3.r_eq; have z1 := hn1.size; have z2 := hn2.size; have z3 := hn3.size
  have X := (hn1.ext.trans hn2.ext).trans hn3.ext
  have q0 := (hn1.blk.ext hn2.ext).ext hn3.ext; have q1 := hn2.blk.ext hn3.ext; have q2 := hn3.blk
  refine ⟨_, _, _, _, q0.loadA0 (by kernel_rfl), ?_⟩
  refine Ret.at (spec_IntOk_c (hr.ext X) (enc_code _)) ?_
  rintro v w4 ⟨hv, y4⟩
  subst hv
  rw [enc_small (show x.natAbs < _ by omega)]
  refine ⟨_, rfl, ifN (fun hh => absurd hh (by simp)) (fun _ => ⟨_, _, _, _, (q1.ext y4).loadA0 (by kernel_rfl), ?_⟩)⟩
  refine Ret.at (spec_IntOk_c (kr.ext (X.trans y4)) (enc_code _)) ?_
  rintro v w5 ⟨hv, y5⟩
  subst hv
  rw [enc_small (show y.natAbs < _ by omega)]
  refine ⟨_, rfl, ifN (fun hh => absurd hh (by simp)) (fun _ => ?_)⟩
  have Y := (y4.trans y5).trans (Ext.drew w5)
  have X5 := X.trans Y
  have lY := Y.le
  refine ⟨_, _, _, _, fun W hW => ((q0.ext Y).ext hW).loadA0 (by kernel_rfl), _, _, _, _, fun W hW => ((q1.ext Y).ext hW).loadA0 (by kernel_rfl), ?_⟩
  refine Ret.at (spec_IntNeg_c (kr.ext X5) (enc_small (by omega))) ?_
  rintro v w6 ⟨vs6, f6, hv, ho6, _, y6⟩
  subst hv
  obtain ⟨g0, gp, gn, gc, gz, rfl, _, _⟩ := open_Signed ho6.reps (enc_code _)
  have l6 := y6.le
  refine ⟨_, _, _, _, rfl, y6, ?_⟩
  refine Ret.at (spec_l04Add_c (hr.ext (X5.trans y6)) ho6.reps (by omega) (by omega)) ?_
  rintro v w7 ⟨vs7, f7, hv, ho7, nd7, y7⟩
  subst hv
  rw [icap_fit (by omega), ← Int.sub_eq_add_neg] at ho7
  obtain ⟨m0, mp, mn, mc, mz, rfl, _, _⟩ := open_Signed ho7.reps (enc_code _)
  obtain ⟨W', st', ld', ow', xx', _, _⟩ := agg_end (t := T_impl_Signed) (((q2.ext Y).ext y6).ext y7) ((X5.trans y6).trans y7) (by omega) ho7 (by kernel_rfl) rfl (by omega) (by omega)
  exact ⟨_, _, _, _, rfl, W', st', _, _, _, _, ld', _, f7, rfl, ow', nd7, xx'⟩
theorem impl_alike_c {w : World} {xs ys : List Value} {c c2 : ByteArray} {b b2 : Bool} {z z2 : List Int} (h : Reps w xs [.str c, .bool b, .ints z]) (g : Reps w ys [.str c2, .bool b2, .ints z2]) (ht : Tab w) :
    Ret P n_impl_alike [.agg ⟨xs⟩, .agg ⟨ys⟩] w fun v w' => v = .bool (alk [.str c, .bool b, .ints z] [.str c2, .bool b2, .ints z2]) ∧ Ext w w' := by
  have hr := h; have gr := g
  obtain ⟨cur, a0, ap, an, ac, az, rfl, hd, ha⟩ := open_Money h rfl
  cases hd
  obtain ⟨cur2, d0, bp, bn, bc, bz, rfl, hd, hb⟩ := open_Money g rfl
  cases hd
  refine impl_alike_ret ?_
  unfold impl_alike
  intro r w1 hn1 r1 w2 hn2
  have X := hn1.ext.trans hn2.ext
  have q0 := hn1.blk.ext hn2.ext; have q1 := hn2.blk
  refine ⟨_, _, _, _, _, q0.loadA0 (by kernel_rfl), ?_⟩
  refine Ret.at (impl_MoneyOk_c (ht.ext X) (hr.ext X) rfl) ?_
  rintro v w3 ⟨hv, y3⟩
  subst hv
  refine ⟨_, rfl, fun e => ⟨_, _, _, _, _, (q1.ext y3).loadA0 (by kernel_rfl), ?_⟩, fun e => ⟨fun hh => absurd hh (by simp), fun _ => ⟨by simp only [alk, e, Bool.false_and], X.trans y3⟩⟩⟩
  have X3 := X.trans y3
  refine Ret.at (impl_MoneyOk_c (ht.ext X3) (gr.ext X3) rfl) ?_
  rintro v w4 ⟨hv, y4⟩
  subst hv
  have Y := y3.trans y4
  exact ⟨_, rfl, fun e2 => ⟨_, (q0.ext Y).loadAt 0 rfl (by kernel_rfl) rfl, _, (q1.ext Y).loadAt 0 rfl (by kernel_rfl) rfl, by simp only [alk, e, e2, Bool.true_and], X.trans Y⟩, fun e2 => ⟨by simp only [alk, e, e2, Bool.false_and, Bool.and_false], X.trans Y⟩⟩
theorem spec_l09Both_c {w : World} {xs ys : List Value} {c c2 : ByteArray} {b b2 : Bool} {z z2 : List Int} (h : Reps w xs [.str c, .bool b, .ints z]) (g : Reps w ys [.str c2, .bool b2, .ints z2]) :
    Ret P n_spec_l09Both [.agg ⟨xs⟩, .agg ⟨ys⟩] w fun v w' => v = .bool (alk [.str c, .bool b, .ints z] [.str c2, .bool b2, .ints z2]) ∧ Ext w w' := by
  have hr := h; have gr := g
  obtain ⟨cur, a0, ap, an, ac, az, rfl, hd, ha⟩ := open_Money h rfl
  cases hd
  obtain ⟨cur2, d0, bp, bn, bc, bz, rfl, hd, hb⟩ := open_Money g rfl
  cases hd
  refine spec_l09Both_ret ?_
  unfold spec_l09Both
  intro r w1 hn1 r1 w2 hn2
  have X := hn1.ext.trans hn2.ext
  have q0 := hn1.blk.ext hn2.ext; have q1 := hn2.blk
  refine ⟨_, _, _, _, _, q0.loadA0 (by kernel_rfl), ?_⟩
  refine Ret.at (spec_MoneyOk_c (hr.ext X) rfl) ?_
  rintro v w3 ⟨hv, y3⟩
  subst hv
  refine ⟨_, rfl, fun e => ⟨_, _, _, _, _, (q1.ext y3).loadA0 (by kernel_rfl), ?_⟩, fun e => ⟨fun hh => absurd hh (by simp), fun _ => ⟨by simp only [alk, e, Bool.false_and], X.trans y3⟩⟩⟩
  have X3 := X.trans y3
  refine Ret.at (spec_MoneyOk_c (gr.ext X3) rfl) ?_
  rintro v w4 ⟨hv, y4⟩
  subst hv
  have Y := y3.trans y4
  exact ⟨_, rfl, fun e2 => ⟨_, (q0.ext Y).loadAt 0 rfl (by kernel_rfl) rfl, _, (q1.ext Y).loadAt 0 rfl (by kernel_rfl) rfl, by simp only [alk, e, e2, Bool.true_and], X.trans Y⟩, fun e2 => ⟨by simp only [alk, e, e2, Bool.false_and, Bool.and_false], X.trans Y⟩⟩
theorem impl_MoneySub_n {w : World} {xs ys : List Value} {c c2 : ByteArray} {b b2 : Bool} {z z2 : List Int} (h : Reps w xs [.str c, .bool b, .ints z]) (g : Reps w ys [.str c2, .bool b2, .ints z2]) (ht : Tab w) :
    Ret P n_impl_MoneySub [.agg ⟨xs⟩, .agg ⟨ys⟩] w fun v w' => ∃ vs f, v = .tuple #[.agg ⟨vs⟩, .bool (mres (alk [.str c, .bool b, .ints z] [.str c2, .bool b2, .ints z2]) c (ival [.bool b, .ints z] - ival [.bool b2, .ints z2])).1] ∧ Owns w' w.heap.size vs (mres (alk [.str c, .bool b, .ints z] [.str c2, .bool b2, .ints z2]) c (ival [.bool b, .ints z] - ival [.bool b2, .ints z2])).2 f ∧ f.Nodup ∧ Ext w w' := by
  have hr := h; have gr := g
  obtain ⟨cur, a0, ap, an, ac, az, rfl, hd, ha⟩ := open_Money h rfl
  cases hd
  obtain ⟨cur2, d0, bp, bn, bc, bz, rfl, hd, hb⟩ := open_Money g rfl
  cases hd
  refine impl_MoneySub_ret ?_
  unfold impl_MoneySub
  intro r w1 hn1 r1 w2 hn2 r2 w3 hn3
  have e1 := hn1.r_eq; have e2 := hn2.r_eq; have e3 := hn3.r_eq; have s1 := hn1.size; have s2 := hn2.size; have s3 := hn3.size
  have X := (hn1.ext.trans hn2.ext).trans hn3.ext
  have q0 := (hn1.blk.ext hn2.ext).ext hn3.ext; have q1 := hn2.blk.ext hn3.ext; have q2 := hn3.blk
  refine ⟨_, _, _, _, _, q0.loadA0 (by kernel_rfl), _, _, _, _, _, q1.loadA0 (by kernel_rfl), ?_⟩
  refine Ret.at (impl_alike_c (hr.ext X) (gr.ext X) (ht.ext X)) ?_
  rintro v w4 ⟨hv, y4⟩
  subst hv
  have l4 := y4.le
  generalize hal : alk [.str c, .bool b, .ints z] [.str c2, .bool b2, .ints z2] = al
  refine ⟨_, rfl, ifN (fun hno => ?_) (fun hyes => ?_)⟩
  · subst hno
    obtain ⟨W', st', ld', ow', xx', _, _⟩ := agg_end (t := T_impl_Money) (q2.ext y4) (X.trans y4) (by omega) (own_money0 w4 (r2 + 1)) (by kernel_rfl) rfl (by omega) (by omega)
    exact ⟨W', st', _, _, _, _, _, ld', _, [], rfl, ow', List.nodup_nil, xx'⟩
  subst hyes
  obtain ⟨m1, m2, rfl⟩ := alk_parts hal
  have E1 := (intOk_enc (moneyOk_int m1)).1; have E2 := (intOk_enc (moneyOk_int m2)).1
  have B1 := money_bound m1; have B2 := money_bound m2
  have Y := y4.trans (Ext.drew w4)
  have X4 := X.trans Y
  have lY := Y.le
  have k0 := q0.ext Y; have k1 := q1.ext Y; have k2 := q2.ext Y
  have hx : Reps w4.drew [.bool b, .slice ap an ac] (enc (ival [.bool b, .ints z])) := by
    rw [← E1]; exact ⟨rfl, ⟨_, _, _, rfl, ha.ext X4⟩, trivial⟩
  have hy : Reps w4.drew [.bool b2, .slice bp bn bc] (enc (ival [.bool b2, .ints z2])) := by
    rw [← E2]; exact ⟨rfl, ⟨_, _, _, rfl, hb.ext X4⟩, trivial⟩
  generalize ival [.bool b, .ints z] = U at B1 hx
  generalize ival [.bool b2, .ints z2] = V at B2 hy
  refine ⟨_, fun W hW => (k0.ext hW).loadAt 0 rfl (by kernel_rfl) rfl, _, _, _, _, fun W hW => (k0.ext hW).loadAAt 1 [.bool b, .slice ap an ac] rfl (by kernel_rfl) rfl, _, _, _, _, fun W hW => (k1.ext hW).loadAAt 1 [.bool b2, .slice bp bn bc] rfl (by kernel_rfl) rfl, ?_⟩
  have d2 : (digs V.natAbs).length ≤ 6 := digs_len_le (by omega)
  refine Ret.at (impl_intNeg_c hy (by omega)) ?_
  rintro v w5 ⟨vs5, f5, hv, ho5, _, y5⟩
  subst hv
  obtain ⟨n0, np, nn, nc, nz, rfl, _, _⟩ := open_Signed ho5.reps (enc_code _)
  have l5 := y5.le
  refine ⟨_, _, _, _, rfl, y5, ?_⟩
  refine Ret.at (impl_intAdd_n (hx.ext y5) ho5.reps B1 (by omega)) ?_
  rintro v w6 ⟨vs6, f6, hv, ho6, nd6, y6⟩
  subst hv
  have Z6 := y5.trans y6
  rw [← Int.sub_eq_add_neg] at ho6
  obtain ⟨g0, gp, gn, gc, gz, rfl, _, _⟩ := open_Signed ho6.reps (enc_code _)
  have l6 := y6.le
  refine ⟨_, _, _, _, rfl, y6, ?_⟩
  refine Ret.at (impl_moneyOf_s (ht.ext (X4.trans Z6)) c ho6 nd6 (by omega)) ?_
  rintro v w7 ⟨vs7, f7, hv, ho7, nd7, _, y7⟩
  subst hv
  obtain ⟨u0, u1, up, un, uc, uz, rfl, _, _⟩ := open_Money ho7.reps (moneyMk_code _ _)
  obtain ⟨W', st', ld', ow', xx', _, _⟩ := agg_end (t := T_impl_Money) ((k2.ext Z6).ext y7) ((X4.trans Z6).trans y7) (by omega) ho7 (by kernel_rfl) rfl (by omega) (by omega)
  exact ⟨_, _, _, _, _, _, rfl, W', st', _, _, _, _, _, ld', _, f7, rfl, ow', nd7, xx'⟩
theorem spec_MoneySub_n {w : World} {xs ys : List Value} {c c2 : ByteArray} {b b2 : Bool} {z z2 : List Int} (h : Reps w xs [.str c, .bool b, .ints z]) (g : Reps w ys [.str c2, .bool b2, .ints z2]) :
    Ret P n_spec_MoneySub [.agg ⟨xs⟩, .agg ⟨ys⟩] w fun v w' => ∃ vs f, v = .tuple #[.agg ⟨vs⟩, .bool (mres (alk [.str c, .bool b, .ints z] [.str c2, .bool b2, .ints z2]) c (ival [.bool b, .ints z] - ival [.bool b2, .ints z2])).1] ∧ Owns w' w.heap.size vs (mres (alk [.str c, .bool b, .ints z] [.str c2, .bool b2, .ints z2]) c (ival [.bool b, .ints z] - ival [.bool b2, .ints z2])).2 f ∧ f.Nodup ∧ Ext w w' := by
  have hr := h; have gr := g
  obtain ⟨cur, a0, ap, an, ac, az, rfl, hd, ha⟩ := open_Money h rfl
  cases hd
  obtain ⟨cur2, d0, bp, bn, bc, bz, rfl, hd, hb⟩ := open_Money g rfl
  cases hd
  refine spec_MoneySub_ret ?_
  unfold spec_MoneySub
  intro r w1 hn1 r1 w2 hn2 r2 w3 hn3
  have e1 := hn1.r_eq; have e2 := hn2.r_eq; have e3 := hn3.r_eq; have s1 := hn1.size; have s2 := hn2.size; have s3 := hn3.size
  have X := (hn1.ext.trans hn2.ext).trans hn3.ext
  have q0 := (hn1.blk.ext hn2.ext).ext hn3.ext; have q1 := hn2.blk.ext hn3.ext; have q2 := hn3.blk
  refine ⟨_, _, _, _, _, q0.loadA0 (by kernel_rfl), _, _, _, _, _, q1.loadA0 (by kernel_rfl), ?_⟩
  refine Ret.at (spec_l09Both_c (hr.ext X) (gr.ext X)) ?_
  rintro v w4 ⟨hv, y4⟩
  subst hv
  have l4 := y4.le
  generalize hal : alk [.str c, .bool b, .ints z] [.str c2, .bool b2, .ints z2] = al
  refine ⟨_, rfl, ifN (fun hno => ?_) (fun hyes => ?_)⟩
  · subst hno
    obtain ⟨W', st', ld', ow', xx', _, _⟩ := agg_end (t := T_impl_Money) (q2.ext y4) (X.trans y4) (by omega) (own_money0 w4 (r2 + 1)) (by kernel_rfl) rfl (by omega) (by omega)
    exact ⟨W', st', _, _, _, _, _, ld', _, [], rfl, ow', List.nodup_nil, xx'⟩
  subst hyes
  obtain ⟨m1, m2, rfl⟩ := alk_parts hal
  have E1 := (intOk_enc (moneyOk_int m1)).1; have E2 := (intOk_enc (moneyOk_int m2)).1
  have B1 := money_bound m1; have B2 := money_bound m2
  have Y := y4.trans (Ext.drew w4)
  have X4 := X.trans Y
  have lY := Y.le
  have k0 := q0.ext Y; have k1 := q1.ext Y; have k2 := q2.ext Y
  have hx : Reps w4.drew [.bool b, .slice ap an ac] (enc (ival [.bool b, .ints z])) := by
    rw [← E1]; exact ⟨rfl, ⟨_, _, _, rfl, ha.ext X4⟩, trivial⟩
  have hy : Reps w4.drew [.bool b2, .slice bp bn bc] (enc (ival [.bool b2, .ints z2])) := by
    rw [← E2]; exact ⟨rfl, ⟨_, _, _, rfl, hb.ext X4⟩, trivial⟩
  generalize ival [.bool b, .ints z] = U at B1 hx
  generalize ival [.bool b2, .ints z2] = V at B2 hy
  refine ⟨_, fun W hW => (k0.ext hW).loadAt 0 rfl (by kernel_rfl) rfl, _, _, _, _, fun W hW => (k0.ext hW).loadAAt 1 [.bool b, .slice ap an ac] rfl (by kernel_rfl) rfl, _, _, _, _, fun W hW => (k1.ext hW).loadAAt 1 [.bool b2, .slice bp bn bc] rfl (by kernel_rfl) rfl, ?_⟩
  refine Ret.at (spec_IntSub_n hx hy B1 B2) ?_
  rintro v w6 ⟨vs6, f6, hv, ho6, nd6, y6⟩
  subst hv
  have Z6 := y6
  obtain ⟨g0, gp, gn, gc, gz, rfl, _, _⟩ := open_Signed ho6.reps (enc_code _)
  have l6 := y6.le
  refine ⟨_, _, _, _, rfl, y6, ?_⟩
  refine Ret.at (spec_l09Make_s c ho6 nd6 (by omega)) ?_
  rintro v w7 ⟨vs7, f7, hv, ho7, nd7, _, y7⟩
  subst hv
  obtain ⟨u0, u1, up, un, uc, uz, rfl, _, _⟩ := open_Money ho7.reps (moneyMk_code _ _)
  obtain ⟨W', st', ld', ow', xx', _, _⟩ := agg_end (t := T_impl_Money) ((k2.ext Z6).ext y7) ((X4.trans Z6).trans y7) (by omega) ho7 (by kernel_rfl) rfl (by omega) (by omega)
  exact ⟨_, _, _, _, _, _, rfl, W', st', _, _, _, _, _, ld', _, f7, rfl, ow', nd7, xx'⟩
end Go.Proofs.YtfemmmbkhhemaaaGreatDoor

namespace Go.Proofs.YtfemmmbkhhemaaaGreatDoor
open Go Go.Proofs.YtfemmmbkhhemaaaGreatDoor.Sx
set_option linter.unusedVariables false
set_option linter.unusedSimpArgs false
def taxOk : List D0 → Bool
  | [.bool b, .ints z, .int s] => decOk [.bool b, .ints z, .int s] && decide (z.length ≤ 1) && !b && decide (dcmp [.bool b, .ints z, .int s] (enc 1 ++ [.int 0]) ≤ 0)
  | _ => false
theorem spec_TaxRateOk_c {w : World} {xs : List Value} {dx : List D0} (h : Reps w xs dx) (hc : dx.map D0.code = [.bool, .ints, .int]) :
    Ret P n_spec_TaxRateOk [.agg ⟨xs⟩] w fun v w' => v = .bool (taxOk dx) ∧ Ext w w' := by
  have hr := h
  obtain ⟨a0, a1p, a1n, a1c, a1z, a2, rfl, rfl, ha⟩ := open_Dec h hc
  refine spec_TaxRateOk_ret ?_
  unfold spec_TaxRateOk
  intro r w1 hn1
  have D := Ext.drew w1
  have X := hn1.ext.trans D
  have hl := ha.1
  refine ⟨_, _, _, _, _, fun W hW => (hn1.blk.ext (D.trans hW)).loadA0 (by kernel_rfl), ?_⟩
  refine Ret.at (spec_DecOk_c (hr.ext X) rfl) ?_
  rintro v w2 ⟨hv, y2⟩
  subst hv
  have X2 := X.trans y2
  have b := (hn1.blk.ext D).ext y2
  refine ⟨_, rfl, fun e1 => ⟨_, fun W hW => (b.ext hW).loadAt 0 rfl (by kernel_rfl) rfl, fun e2 => ⟨_, _, _, fun W hW => (b.ext hW).loadAt 1 rfl (by kernel_rfl) rfl, ifD (fun hle => ?_) (fun hgt => ⟨?_, X2⟩)⟩, fun e2 => ifF ⟨?_, X2⟩⟩, fun e1 => ifF (ifF ⟨?_, X2⟩)⟩
  · refine ⟨_, _, _, _, _, fun W hW => (b.ext hW).loadA0 (by kernel_rfl), ?_⟩
    refine Ret.at (spec_IntOf_c (n := 1) (by omega) (by omega)) ?_
    rintro v w3 ⟨vs, f, hv, ho, _, y3⟩
    subst hv
    obtain ⟨g0, gp, gn, gc, gz, rfl, hg, hgi⟩ := open_Signed ho.reps (enc_code _)
    refine ⟨_, _, _, _, rfl, y3, ?_⟩
    have hone : Reps w3 [.bool g0, .slice gp gn gc, .int .i64 0] (enc 1 ++ [.int 0]) := by
      rw [hg]; exact ⟨rfl, ⟨_, _, _, rfl, hgi⟩, rfl, trivial⟩
    refine Ret.at (spec_DecCmp_c (hr.ext (X2.trans y3)) hone rfl rfl) ?_
    rintro v w4 ⟨hv, y4⟩
    subst hv
    refine ⟨_, rfl, ?_, (X2.trans y3).trans y4⟩
    have e2 : a0 = false := by simpa using e2
    subst e2
    simp only [taxOk, e1, show decide (a1z.length ≤ 1) = true by simp; omega, Bool.and_self, Bool.not_false, Bool.true_and]
  · simp only [taxOk, show decide (a1z.length ≤ 1) = false by simp; omega, Bool.and_false, Bool.false_and]
  · have e2 : a0 = true := by simpa using e2
    simp only [taxOk, e2, Bool.not_true, Bool.and_false, Bool.false_and]
  · simp only [taxOk, e1, Bool.false_and]
theorem impl_TaxRateOk_c {w : World} {xs : List Value} {dx : List D0} (h : Reps w xs dx) (hc : dx.map D0.code = [.bool, .ints, .int]) :
    Ret P n_impl_TaxRateOk [.agg ⟨xs⟩] w fun v w' => v = .bool (taxOk dx) ∧ Ext w w' := by
  have hr := h
  obtain ⟨a0, a1p, a1n, a1c, a1z, a2, rfl, rfl, ha⟩ := open_Dec h hc
  refine impl_TaxRateOk_ret ?_
  unfold impl_TaxRateOk
  intro r w1 hn1
  have D := Ext.drew w1
  have X := hn1.ext.trans D
  have hl := ha.1
  refine ⟨_, _, _, _, _, fun W hW => (hn1.blk.ext (D.trans hW)).loadA0 (by kernel_rfl), ?_⟩
  refine Ret.at (impl_DecOk_c (hr.ext X) rfl) ?_
  rintro v w2 ⟨hv, y2⟩
  subst hv
  have X2 := X.trans y2
  have b := (hn1.blk.ext D).ext y2
  refine ⟨_, rfl, fun e1 => ⟨_, _, _, fun W hW => (b.ext hW).loadAt 1 rfl (by kernel_rfl) rfl, ifD (fun hle => ⟨_, fun W hW => (b.ext hW).loadAt 0 rfl (by kernel_rfl) rfl, fun e2 => ?_, fun e2 => ⟨?_, X2⟩⟩) (fun hgt => ifF ⟨?_, X2⟩)⟩, fun e1 => ifF (ifF ⟨?_, X2⟩)⟩
  · refine ⟨_, _, _, _, _, fun W hW => (b.ext hW).loadA0 (by kernel_rfl), ?_⟩
    refine Ret.at (impl_IntOf_c (n := 1) (by omega) (by omega)) ?_
    rintro v w3 ⟨vs, f, hv, ho, _, y3⟩
    subst hv
    obtain ⟨g0, gp, gn, gc, gz, rfl, hg, hgi⟩ := open_Signed ho.reps (enc_code _)
    refine ⟨_, _, _, _, rfl, y3, ?_⟩
    have hone : Reps w3 [.bool g0, .slice gp gn gc, .int .i64 0] (enc 1 ++ [.int 0]) := by
      rw [hg]; exact ⟨rfl, ⟨_, _, _, rfl, hgi⟩, rfl, trivial⟩
    refine Ret.at (impl_DecCmp_c (hr.ext (X2.trans y3)) hone rfl rfl) ?_
    rintro v w4 ⟨hv, y4⟩
    subst hv
    refine ⟨_, rfl, ?_, (X2.trans y3).trans y4⟩
    have e2 : a0 = false := by simpa using e2
    subst e2
    simp only [taxOk, e1, show decide (a1z.length ≤ 1) = true by simp; omega, Bool.and_self, Bool.not_false, Bool.true_and]
  · have e2 : a0 = true := by simpa using e2
    simp only [taxOk, e2, Bool.not_true, Bool.and_false, Bool.false_and]
  · simp only [taxOk, show decide (a1z.length ≤ 1) = false by simp; omega, Bool.and_false, Bool.false_and]
  · simp only [taxOk, e1, Bool.false_and]
end Go.Proofs.YtfemmmbkhhemaaaGreatDoor

namespace Go.Proofs.YtfemmmbkhhemaaaGreatDoor
open Go Go.Proofs.YtfemmmbkhhemaaaGreatDoor.Sx
set_option linter.unusedVariables false
set_option linter.unusedSimpArgs false
theorem impl_RatMoney_n {w : World} {xs : List Value} {N : Int} {D : Nat} {m : Int} (cur : ByteArray) (h : Reps w xs (rmk N D)) (hok : ratOk (rmk N D) = true) (hN : (digs N.natAbs).length ≤ 10) (hD : (digs D).length ≤ 6) (ht : Tab w) :
    Ret P n_impl_RatMoney [.string cur, .agg ⟨xs⟩, .int .i64 m] w fun v w' => ∃ vs1 f1 vs2 f2, v = .tuple #[.agg ⟨vs1⟩, .agg ⟨vs2⟩, .bool (rmOk cur N D m)] ∧ Owns w' w.heap.size vs1 (rmMoney cur N D m) f1 ∧ f1.Nodup ∧ Owns w' w.heap.size vs2 (rmRest cur N D m) f2 ∧ f2.Nodup ∧ (∀ k ∈ f1, k ∉ f2) ∧ Ext w w' := by
  have hr := h
  obtain ⟨p1, n1, c1, p2, n2, c2, rfl, i1, i2, li1, li2, he, hd⟩ := rmk_open h hok
  refine impl_RatMoney_ret ?_
  unfold impl_RatMoney
  intro r w1 hn1 r1 w2 hn2 r2 w3 hn3
  have e1 := hn1.r_eq; have e2 := hn2.r_eq; have e3 := hn3.r_eq; have z1 := hn1.size; have z2 := hn2.size; have z3 := hn3.size
  have X := (hn1.ext.trans hn2.ext).trans hn3.ext
  have b0 := (hn1.blk.ext hn2.ext).ext hn3.ext; have b1 := hn2.blk.ext hn3.ext; have b2 := hn3.blk
  refine ⟨_, _, _, _, _, _, _, b0.loadA0 (by kernel_rfl), ?_⟩
  refine Ret.at (impl_RatRest_n (m := m) (hr.ext X) hok hN hD) ?_
  rintro v w4 ⟨vs4, f4, vsr, fr, hv, ho4, nd4, hor, ndr, dis, y4⟩
  subst hv
  have l4 := y4.le
  have hr4 := ho4.reps; have hrr := hor.reps
  obtain ⟨s0, sp, sn, sc, sz, rfl, _, _⟩ := open_Signed hr4 (enc_code _)
  have rcode : (rs N D m).map D0.code = [.bool, .ints, .ints] := by
    unfold rs
    split
    · exact redR_code _ _
    · rfl
  obtain ⟨g0, gp, gn, gc, gz, gp2, gn2, gc2, gz2, rfl, _, _, _⟩ := open_Rat hrr rcode
  refine ⟨_, _, _, _, _, _, _, _, _, _, _, _, rfl, ?_⟩
  intro r3 w5 hn5 r4 w6 hn6
  have e5 := hn5.r_eq; have z5 := hn5.size; have e6 := hn6.r_eq; have z6 := hn6.size
  obtain ⟨w7, st7, hb7, ch7, sz7⟩ := (hn5.blk.ext hn6.ext).storeA0 (P := P) (t := T_impl_Signed) (xs := [.bool s0, .slice sp sn sc]) (by kernel_rfl) rfl (by simp [Value.oneCell'])
  obtain ⟨w8, st8, hb8, ch8, sz8⟩ := (hn6.blk.chg ch7 (by simp; omega)).storeA0 (P := P) (t := T_impl_Rat) (xs := [.bool g0, .slice gp gn gc, .slice gp2 gn2 gc2]) (by kernel_rfl) rfl (by simp [Value.oneCell'])
  have Z : Ext w4 w8 := ((hn5.ext.trans hn6.ext).chg ch7 (by simp; omega)).chg ch8 (by simp; omega)
  have k3 := hb7.chg ch8 (by simp; omega)
  have lZ := Z.le
  have Y8 := y4.trans Z
  refine ⟨w7, st7, w8, st8, ?_⟩
  refine ifN (fun hm1 => ?_) (fun hm1 => ?_)
  · obtain ⟨W1, W2, a1, _, a2, a3, a4, a5, a6, a7⟩ := two_end (t1 := T_impl_Money) (t2 := T_impl_Rat) (b1.ext Y8) (b2.ext Y8) (X.trans Y8) (own_money0 _ (r2 + 1)) (own_rat0 _ (r2 + 1)) (by kernel_rfl) rfl (by kernel_rfl) rfl (by omega) (by omega) (by omega) (by omega) (by omega) (by omega)
    have hno : rmOk cur N D m = false := by rw [rmOk, hm1]; rfl
    exact ⟨W1, a1, W2, a2, _, _, _, _, _, a3, _, _, _, _, _, _, _, a4, _, [], _, [], by rw [hno], by rw [rmMoney, hno]; exact a5, List.nodup_nil, by rw [rmRest, hno]; exact a6, List.nodup_nil, fun k hk => by simp at hk, a7⟩
  ·
    refine ⟨_, _, _, _, k3.loadA0 (by kernel_rfl), ?_⟩
    refine Ret.at (impl_moneyOf_s (ht.ext (X.trans Y8)) cur (ho4.ext Z) nd4 (show w3.heap.size ≤ w8.heap.size by omega)) ?_
    rintro v w9 ⟨vs9, f9, hv, ho9, nd9, sub9, y9⟩
    subst hv
    have hr9 := ho9.reps
    obtain ⟨m0, m1, mp, mn, mc, mz, rfl, _, _⟩ := open_Money hr9 (moneyMk_code _ _)
    refine ⟨_, _, _, _, _, _, rfl, ?_⟩
    intro r5 w10 hn10
    have e10 := hn10.r_eq; have z10 := hn10.size; have l9 := y9.le
    obtain ⟨w11, st11, hb11, y11⟩ := hn10.fill (P := P) (t := T_impl_Money) (xs := [.string m0, .bool m1, .slice mp mn mc]) (by simp [Value.oneCell']) (by kernel_rfl) rfl
    have Y11 := (Y8.trans y9).trans y11
    refine ⟨w11, st11, ?_⟩
    refine ifN (fun hm2 => ?_) (fun hm2 => ?_)
    · obtain ⟨W1, W2, a1, _, a2, a3, a4, a5, a6, a7⟩ := two_end (t1 := T_impl_Money) (t2 := T_impl_Rat) (b1.ext Y11) (b2.ext Y11) (X.trans Y11) (own_money0 _ (r2 + 1)) (own_rat0 _ (r2 + 1)) (by kernel_rfl) rfl (by kernel_rfl) rfl (by omega) (by omega) (by omega) (by omega) (by omega) (by omega)
      have hno : rmOk cur N D m = false := by
        have z1' : rr N D m = rround N D m := by rw [rr, hm1]; rfl
        rw [z1'] at hm2
        rw [rmOk, hm1, hm2]; rfl
      exact ⟨W1, a1, W2, a2, _, _, _, _, _, a3, _, _, _, _, _, _, _, a4, _, [], _, [], by rw [hno], by rw [rmMoney, hno]; exact a5, List.nodup_nil, by rw [rmRest, hno]; exact a6, List.nodup_nil, fun k hk => by simp at hk, a7⟩
    have D' := Ext.drew w11
    have Y12 := Y11.trans D'
    have q1 := b1.ext Y12; have q2 := b2.ext Y12
    have k4 := hb8.ext ((y9.trans y11).trans D'); have k5 := hb11.ext D'
    have o1 := (ho9.ext y11).ext D'
    have o2 := (hor.ext Z).ext ((y9.trans y11).trans D')
    have l11 := y11.le
    obtain ⟨W1, W2, a1, ch1, a2, a3, a4, a5, a6, a7⟩ := two_end (t1 := T_impl_Money) (t2 := T_impl_Rat) q1 q2 (X.trans Y12) o1 o2 (by kernel_rfl) rfl (by kernel_rfl) rfl (by omega) (by omega) (by omega) (by omega) (by omega) (by omega)
    have z1' : rr N D m = rround N D m := by rw [rr, hm1]; rfl
    rw [z1'] at hm2 a5
    have hyes : rmOk cur N D m = true := by rw [rmOk, hm1, hm2]; rfl
    refine ⟨[r1], _, _, _, _, _, fun W hW => (k5.chg (show Chg [r1] w11.drew W from hW) (by simp; omega)).loadA0 (by kernel_rfl), _, _, _, _, _, _, _, fun W hW => (k4.chg (show Chg [r1] w11.drew W from hW) (by simp; omega)).loadA0 (by kernel_rfl), W1, a1, show Chg [r1] w11.drew W1 from ch1, W2, a2, _, _, _, _, _, a3, _, _, _, _, _, _, _, a4, _, f9, _, fr, by rw [hyes], ?_, nd9, ?_, ndr, fun k hk => dis k (sub9 k hk), a7⟩
    · rw [rmMoney, hyes]
      rw [moneyMk, hm2] at a5
      exact a5
    · rw [rmRest, hyes]
      rw [rs, hm1] at a6
      exact a6
theorem spec_RatMoney_n {w : World} {xs : List Value} {N : Int} {D : Nat} {m : Int} (cur : ByteArray) (h : Reps w xs (rmk N D)) (hok : ratOk (rmk N D) = true) (hN : (digs N.natAbs).length ≤ 10) (hD : (digs D).length ≤ 6) :
    Ret P n_spec_RatMoney [.string cur, .agg ⟨xs⟩, .int .i64 m] w fun v w' => ∃ vs1 f1 vs2 f2, v = .tuple #[.agg ⟨vs1⟩, .agg ⟨vs2⟩, .bool (rmOk cur N D m)] ∧ Owns w' w.heap.size vs1 (rmMoney cur N D m) f1 ∧ f1.Nodup ∧ Owns w' w.heap.size vs2 (rmRest cur N D m) f2 ∧ f2.Nodup ∧ (∀ k ∈ f1, k ∉ f2) ∧ Ext w w' := by
  have hr := h
  obtain ⟨p1, n1, c1, p2, n2, c2, rfl, i1, i2, li1, li2, he, hd⟩ := rmk_open h hok
  refine spec_RatMoney_ret ?_
  unfold spec_RatMoney
  intro r w1 hn1 r1 w2 hn2 r2 w3 hn3
  have e1 := hn1.r_eq; have e2 := hn2.r_eq; have e3 := hn3.r_eq; have z1 := hn1.size; have z2 := hn2.size; have z3 := hn3.size
  have X := (hn1.ext.trans hn2.ext).trans hn3.ext
  have b0 := (hn1.blk.ext hn2.ext).ext hn3.ext; have b1 := hn2.blk.ext hn3.ext; have b2 := hn3.blk
  refine ⟨_, _, _, _, _, _, _, b0.loadA0 (by kernel_rfl), ?_⟩
  refine Ret.at (spec_RatRest_n (m := m) (hr.ext X) hok hN hD) ?_
  rintro v w4 ⟨vs4, f4, vsr, fr, hv, ho4, nd4, hor, ndr, dis, y4⟩
  subst hv
  have l4 := y4.le
  have hr4 := ho4.reps; have hrr := hor.reps
  obtain ⟨s0, sp, sn, sc, sz, rfl, _, _⟩ := open_Signed hr4 (enc_code _)
  have rcode : (rs N D m).map D0.code = [.bool, .ints, .ints] := by
    unfold rs
    split
    · exact redR_code _ _
    · rfl
  obtain ⟨g0, gp, gn, gc, gz, gp2, gn2, gc2, gz2, rfl, _, _, _⟩ := open_Rat hrr rcode
  refine ⟨_, _, _, _, _, _, _, _, _, _, _, _, rfl, ?_⟩
  intro r3 w5 hn5 r4 w6 hn6
  have e5 := hn5.r_eq; have z5 := hn5.size; have e6 := hn6.r_eq; have z6 := hn6.size
  obtain ⟨w7, st7, hb7, ch7, sz7⟩ := (hn5.blk.ext hn6.ext).storeA0 (P := P) (t := T_impl_Signed) (xs := [.bool s0, .slice sp sn sc]) (by kernel_rfl) rfl (by simp [Value.oneCell'])
  obtain ⟨w8, st8, hb8, ch8, sz8⟩ := (hn6.blk.chg ch7 (by simp; omega)).storeA0 (P := P) (t := T_impl_Rat) (xs := [.bool g0, .slice gp gn gc, .slice gp2 gn2 gc2]) (by kernel_rfl) rfl (by simp [Value.oneCell'])
  have Z : Ext w4 w8 := ((hn5.ext.trans hn6.ext).chg ch7 (by simp; omega)).chg ch8 (by simp; omega)
  have k3 := hb7.chg ch8 (by simp; omega)
  have lZ := Z.le
  have Y8 := y4.trans Z
  refine ⟨w7, st7, w8, st8, ?_⟩
  refine ⟨_, _, _, _, k3.loadA0 (by kernel_rfl), ?_⟩
  refine Ret.at (spec_l09Make_s cur (ho4.ext Z) nd4 (show w3.heap.size ≤ w8.heap.size by omega)) ?_
  rintro v w9 ⟨vs9, f9, hv, ho9, nd9, sub9, y9⟩
  subst hv
  have hr9 := ho9.reps
  obtain ⟨m0, m1, mp, mn, mc, mz, rfl, _, _⟩ := open_Money hr9 (moneyMk_code _ _)
  refine ⟨_, _, _, _, _, _, rfl, ?_⟩
  intro r5 w10 hn10
  have e10 := hn10.r_eq; have z10 := hn10.size; have l9 := y9.le
  obtain ⟨w11, st11, hb11, y11⟩ := hn10.fill (P := P) (t := T_impl_Money) (xs := [.string m0, .bool m1, .slice mp mn mc]) (by simp [Value.oneCell']) (by kernel_rfl) rfl
  have Y11 := (Y8.trans y9).trans y11
  refine ⟨w11, st11, ?_⟩
  refine ifN (fun hm1 => ifT ?_) (fun hm1 => ifN (fun hm2 => ?_) (fun hm2 => ?_))
  · obtain ⟨W1, W2, a1, _, a2, a3, a4, a5, a6, a7⟩ := two_end (t1 := T_impl_Money) (t2 := T_impl_Rat) (b1.ext Y11) (b2.ext Y11) (X.trans Y11) (own_money0 _ (r2 + 1)) (own_rat0 _ (r2 + 1)) (by kernel_rfl) rfl (by kernel_rfl) rfl (by omega) (by omega) (by omega) (by omega) (by omega) (by omega)
    have hno : rmOk cur N D m = false := by rw [rmOk, hm1]; rfl
    exact ⟨W1, a1, W2, a2, _, _, _, _, _, a3, _, _, _, _, _, _, _, a4, _, [], _, [], by rw [hno], by rw [rmMoney, hno]; exact a5, List.nodup_nil, by rw [rmRest, hno]; exact a6, List.nodup_nil, fun k hk => by simp at hk, a7⟩
  · obtain ⟨W1, W2, a1, _, a2, a3, a4, a5, a6, a7⟩ := two_end (t1 := T_impl_Money) (t2 := T_impl_Rat) (b1.ext Y11) (b2.ext Y11) (X.trans Y11) (own_money0 _ (r2 + 1)) (own_rat0 _ (r2 + 1)) (by kernel_rfl) rfl (by kernel_rfl) rfl (by omega) (by omega) (by omega) (by omega) (by omega) (by omega)
    have hno : rmOk cur N D m = false := by
      have z1' : rr N D m = rround N D m := by rw [rr, hm1]; rfl
      rw [z1'] at hm2
      rw [rmOk, hm1, hm2]; rfl
    exact ⟨W1, a1, W2, a2, _, _, _, _, _, a3, _, _, _, _, _, _, _, a4, _, [], _, [], by rw [hno], by rw [rmMoney, hno]; exact a5, List.nodup_nil, by rw [rmRest, hno]; exact a6, List.nodup_nil, fun k hk => by simp at hk, a7⟩
  have D' := Ext.drew w11
  have Y12 := Y11.trans D'
  have q1 := b1.ext Y12; have q2 := b2.ext Y12
  have k4 := hb8.ext ((y9.trans y11).trans D'); have k5 := hb11.ext D'
  have o1 := (ho9.ext y11).ext D'
  have o2 := (hor.ext Z).ext ((y9.trans y11).trans D')
  have l11 := y11.le
  obtain ⟨W1, W2, a1, ch1, a2, a3, a4, a5, a6, a7⟩ := two_end (t1 := T_impl_Money) (t2 := T_impl_Rat) q1 q2 (X.trans Y12) o1 o2 (by kernel_rfl) rfl (by kernel_rfl) rfl (by omega) (by omega) (by omega) (by omega) (by omega) (by omega)
  have z1' : rr N D m = rround N D m := by rw [rr, hm1]; rfl
  rw [z1'] at hm2 a5
  have hyes : rmOk cur N D m = true := by rw [rmOk, hm1, hm2]; rfl
  refine ⟨[r1], _, _, _, _, _, fun W hW => (k5.chg (show Chg [r1] w11.drew W from hW) (by simp; omega)).loadA0 (by kernel_rfl), _, _, _, _, _, _, _, fun W hW => (k4.chg (show Chg [r1] w11.drew W from hW) (by simp; omega)).loadA0 (by kernel_rfl), W1, a1, show Chg [r1] w11.drew W1 from ch1, W2, a2, _, _, _, _, _, a3, _, _, _, _, _, _, _, a4, _, f9, _, fr, by rw [hyes], ?_, nd9, ?_, ndr, fun k hk => dis k (sub9 k hk), a7⟩
  · rw [rmMoney, hyes]
    rw [moneyMk, hm2] at a5
    exact a5
  · rw [rmRest, hyes]
    rw [rs, hm1] at a6
    exact a6
theorem impl_DecRat_n {w : World} {xs : List Value} {m t : Nat} (h : Reps w xs (dnn m (t : Int))) (hm : (digs m).length ≤ 6) (ht : t ≤ 30) :
    Ret P n_impl_DecRat [.agg ⟨xs⟩] w fun v w' => ∃ vs f, v = .agg ⟨vs⟩ ∧ Owns w' w.heap.size vs (redR (m : Int) (10 ^ t)) f ∧ f.Nodup ∧ Ext w w' := by
  have hr := h
  obtain ⟨a0, ap, an, ac, az, a2, rfl, hd, ha⟩ := open_Dec h rfl
  simp only [dnn, List.cons.injEq, D0.bool.injEq, D0.ints.injEq, D0.int.injEq, and_true] at hd
  obtain ⟨rfl, rfl, rfl⟩ := hd
  have hla := ha.1
  have hpow : 0 < 10 ^ t := Nat.pow_pos (by decide)
  have hten := ten_len ht
  refine impl_DecRat_ret ?_
  unfold impl_DecRat
  intro r w1 hn1 r1 w2 hn2
  have e1 := hn1.r_eq; have e2 := hn2.r_eq; have z1 := hn1.size; have z2 := hn2.size
  have X := hn1.ext.trans hn2.ext
  have b0 := hn1.blk.ext hn2.ext; have b1 := hn2.blk
  refine ⟨_, _, _, _, _, b0.loadA0 (by kernel_rfl), ?_⟩
  refine Ret.at (impl_DecOk_c (hr.ext X) rfl) ?_
  rintro v w3 ⟨hv, y3⟩
  subst hv
  rw [dnn_ok hm ⟨by omega, by omega⟩]
  refine ⟨_, rfl, ifN (fun hh => absurd hh (by simp)) (fun _ => ?_)⟩
  have D := Ext.drew w3
  have Y := y3.trans D
  have X4 := X.trans Y
  have lY := Y.le
  have b0 := b0.ext Y; have b1 := b1.ext Y
  refine ⟨_, _, _, _, fun W hW => (b0.ext hW).loadAAt 0 [.bool false, .slice ap an ac] rfl (by kernel_rfl) rfl, _, fun W hW => (b0.ext hW).loadAt 2 rfl (by kernel_rfl) rfl, ?_⟩
  intro ss w4 F1
  have S1 := (FlSt.start (o := .cells ⟨[.bool false, .slice none 0 0, .slice none 0 0]⟩ T_impl_Rat (0, 0)) w3.drew).step F1
  refine Ret.at (impl_natTen_c (k := (t : Int)) (by omega) (by omega)) ?_
  rintro v w5 ⟨p5, n5, c5, hv, o5, y5⟩
  subst hv
  rw [Int.toNat_natCast] at o5
  have l5 := o5.ints.1
  refine ⟨_, _, _, rfl, y5, ?_⟩
  intro ss1 w6 F2
  have S2 := (S1.ext y5).step F2
  have hs : Reps w6 [.bool false, .slice ap an ac] (enc (m : Int)) := by
    rw [natCast_enc]
    exact ⟨rfl, ⟨_, _, _, rfl, ha.ext (X4.trans S2.1)⟩, trivial⟩
  refine Ret.at (impl_reduce_c hs (o5.ints.ext F2.ext) hpow (by rw [Int.natAbs_natCast]; omega) (by omega)) ?_
  rintro v w7 ⟨vs7, f7, hv, ho7, nd7, y7⟩
  subst hv
  have hr7 := ho7.reps
  obtain ⟨g0, gp, gn, gc, gz, gp2, gn2, gc2, gz2, rfl, _, _, _⟩ := open_Rat hr7 (redR_code _ _)
  refine ⟨_, _, _, _, _, _, _, _, rfl, ?_⟩
  intro ss2 w8 r8 F3 G
  have S3 := (S2.ext y7).step F3
  obtain ⟨hr8, hbk⟩ := S3.get G
  have B8 : Blk w8 r8 T_impl_Rat [.bool false, .slice none 0 0, .slice none 0 0] := hbk
  obtain ⟨w9, st9, hb9, ch9, sz9⟩ := B8.storeA0 (P := P) (t := T_impl_Rat) (xs := [.bool g0, .slice gp gn gc, .slice gp2 gn2 gc2]) (by kernel_rfl) rfl (by simp [Value.oneCell'])
  have hni := Owns.notin B8 (by decide) (ho7.ext F3.ext)
  have ho9 := (ho7.ext F3.ext).chg ch9 (fun k hk hm' => hni (by simp at hm'; rwa [← hm']))
  have Z9 : Ext w3.drew w9 := S3.1.chg ch9 (by simp; exact hr8)
  have lZ := S2.1.le
  obtain ⟨W', st, ld, ow, xx, _, _⟩ := agg_end (t := T_impl_Rat) (b1.ext Z9) (X4.trans Z9) (by omega) ho9 (by kernel_rfl) rfl (by omega) (by omega)
  exact ⟨w9, st9, _, _, _, _, _, _, _, hb9.loadA0 (by kernel_rfl), W', st, _, _, _, _, _, _, _, ld, _, f7, rfl, ow, nd7, xx⟩
theorem spec_DecRat_n {w : World} {xs : List Value} {m t : Nat} (h : Reps w xs (dnn m (t : Int))) (hm : (digs m).length ≤ 6) (ht : t ≤ 30) :
    Ret P n_spec_DecRat [.agg ⟨xs⟩] w fun v w' => ∃ vs f, v = .agg ⟨vs⟩ ∧ Owns w' w.heap.size vs (redR (m : Int) (10 ^ t)) f ∧ f.Nodup ∧ Ext w w' := by
  have hr := h
  obtain ⟨a0, ap, an, ac, az, a2, rfl, hd, ha⟩ := open_Dec h rfl
  simp only [dnn, List.cons.injEq, D0.bool.injEq, D0.ints.injEq, D0.int.injEq, and_true] at hd
  obtain ⟨rfl, rfl, rfl⟩ := hd
  have hla := ha.1
  have hpow : 0 < 10 ^ t := Nat.pow_pos (by decide)
  have hten := ten_len ht
  refine spec_DecRat_ret ?_
  unfold spec_DecRat
  intro r w1 hn1 r1 w2 hn2
  have e1 := hn1.r_eq; have e2 := hn2.r_eq; have z1 := hn1.size; have z2 := hn2.size
  have X := hn1.ext.trans hn2.ext
  have b0 := hn1.blk.ext hn2.ext; have b1 := hn2.blk
  refine ⟨_, _, _, _, _, b0.loadA0 (by kernel_rfl), ?_⟩
  refine Ret.at (spec_DecOk_c (hr.ext X) rfl) ?_
  rintro v w3 ⟨hv, y3⟩
  subst hv
  rw [dnn_ok hm ⟨by omega, by omega⟩]
  refine ⟨_, rfl, ifN (fun hh => absurd hh (by simp)) (fun _ => ?_)⟩
  have D := Ext.drew w3
  have Y := y3.trans D
  have X4 := X.trans Y
  have lY := Y.le
  have b0 := b0.ext Y; have b1 := b1.ext Y
  refine ⟨_, _, _, _, fun W hW => (b0.ext hW).loadAAt 0 [.bool false, .slice ap an ac] rfl (by kernel_rfl) rfl, _, fun W hW => (b0.ext hW).loadAt 2 rfl (by kernel_rfl) rfl, ?_⟩
  intro ss w4 F1
  have S1 := (FlSt.start (o := .cells ⟨[.bool false, .slice none 0 0, .slice none 0 0]⟩ T_impl_Rat (0, 0)) w3.drew).step F1
  refine Ret.at (spec_l07Ten_c (k := (t : Int)) (by omega) (by omega)) ?_
  rintro v w5 ⟨vs5, f5, hv, o5, _, y5⟩
  subst hv
  rw [Int.toNat_natCast] at o5
  have hr5 := o5.reps
  obtain ⟨s0, sp, sn, sc, sz, rfl, _, _⟩ := open_Signed hr5 (enc_code _)
  refine ⟨_, _, _, _, rfl, y5, ?_⟩
  intro ss1 w6 F2
  have S2 := (S1.ext y5).step F2
  have hs : Reps w6 [.bool false, .slice ap an ac] (enc (m : Int)) := by
    rw [natCast_enc]
    exact ⟨rfl, ⟨_, _, _, rfl, ha.ext (X4.trans S2.1)⟩, trivial⟩
  refine Ret.at (spec_RatMake_n hs (hr5.ext F2.ext) (by rw [Int.natAbs_natCast]; omega) (by omega) hpow) ?_
  rintro v w7 ⟨vs7, f7, hv, ho7, nd7, y7⟩
  subst hv
  have hr7 := ho7.reps
  obtain ⟨g0, gp, gn, gc, gz, gp2, gn2, gc2, gz2, rfl, _, _, _⟩ := open_Rat hr7 (redR_code _ _)
  refine ⟨_, _, _, _, _, _, _, _, rfl, ?_⟩
  intro ss2 w8 r8 F3 G
  have S3 := (S2.ext y7).step F3
  obtain ⟨hr8, hbk⟩ := S3.get G
  have B8 : Blk w8 r8 T_impl_Rat [.bool false, .slice none 0 0, .slice none 0 0] := hbk
  obtain ⟨w9, st9, hb9, ch9, sz9⟩ := B8.storeA0 (P := P) (t := T_impl_Rat) (xs := [.bool g0, .slice gp gn gc, .slice gp2 gn2 gc2]) (by kernel_rfl) rfl (by simp [Value.oneCell'])
  have hni := Owns.notin B8 (by decide) (ho7.ext F3.ext)
  have ho9 := (ho7.ext F3.ext).chg ch9 (fun k hk hm' => hni (by simp at hm'; rwa [← hm']))
  have Z9 : Ext w3.drew w9 := S3.1.chg ch9 (by simp; exact hr8)
  have lZ := S2.1.le
  obtain ⟨W', st, ld, ow, xx, _, _⟩ := agg_end (t := T_impl_Rat) (b1.ext Z9) (X4.trans Z9) (by omega) ho9 (by kernel_rfl) rfl (by omega) (by omega)
  exact ⟨w9, st9, _, _, _, _, _, _, _, hb9.loadA0 (by kernel_rfl), W', st, _, _, _, _, _, _, _, ld, _, f7, rfl, ow, nd7, xx⟩
theorem impl_MoneyRat_n {w : World} {xs : List Value} {c : ByteArray} {N : Int} (h : Reps w xs (.str c :: enc N)) (hok : moneyOk (.str c :: enc N) = true) (ht : Tab w) :
    Ret P n_impl_MoneyRat [.agg ⟨xs⟩] w fun v w' => ∃ vs f, v = .agg ⟨vs⟩ ∧ Owns w' w.heap.size vs (rmk N 1) f ∧ f.Nodup ∧ Ext w w' := by
  have hr := h
  obtain ⟨t0, a0, ap, an, ac, az, rfl, hd, ha⟩ := open_Money h rfl
  simp only [enc, List.cons.injEq, D0.str.injEq, D0.bool.injEq, D0.ints.injEq, and_true] at hd
  obtain ⟨rfl, rfl, rfl⟩ := hd
  have hla := ha.1
  have h4 : (digs N.natAbs).length ≤ 4 := by
    simp only [moneyOk, enc, Bool.and_eq_true, decide_eq_true_eq] at hok
    exact hok.2
  refine impl_MoneyRat_ret ?_
  unfold impl_MoneyRat
  intro r w1 hn1 r1 w2 hn2
  have e1 := hn1.r_eq; have e2 := hn2.r_eq; have z1 := hn1.size; have z2 := hn2.size
  have X := hn1.ext.trans hn2.ext
  have b0 := hn1.blk.ext hn2.ext; have b1 := hn2.blk
  refine ⟨_, _, _, _, _, b0.loadA0 (by kernel_rfl), ?_⟩
  refine Ret.at (impl_MoneyOk_c (ht.ext X) (hr.ext X) rfl) ?_
  rintro v w3 ⟨hv, y3⟩
  subst hv
  rw [hok]
  refine ⟨_, rfl, ifN (fun hh => absurd hh (by simp)) (fun _ => ?_)⟩
  have l3 := y3.le
  have X3 := X.trans y3
  have hs : Reps w3 [.bool (decide (N < 0)), .slice ap an ac] (enc N) := ⟨rfl, ⟨_, _, _, rfl, ha.ext X3⟩, trivial⟩
  refine ⟨_, _, _, _, (b0.ext y3).loadAAt 1 [.bool (decide (N < 0)), .slice ap an ac] rfl (by kernel_rfl) rfl, ?_⟩
  refine Ret.at (impl_intCopy_c hs (enc_code _) (by simp only [bulks, enc, D0.bulk, List.map_cons, List.map_nil, List.sum_cons, List.sum_nil]; omega)) ?_
  rintro v w4 ⟨vs4, f4, hv, ho4, nd4, y4⟩
  subst hv
  have hr4 := ho4.reps
  obtain ⟨s0, sp, sn, sc, sz, rfl, _, _⟩ := open_Signed hr4 (enc_code _)
  refine ⟨_, _, _, _, rfl, ?_⟩
  intro r5 w5 hn5
  have e5 := hn5.r_eq; have z5 := hn5.size; have l4 := y4.le
  have hone : Own w5 w3.heap.size T_int 1 (some ⟨r5, 0, none⟩) 1 1 ((digs 1).map (Value.int .i64)) := by
    rw [digs_one]
    exact Own.of_blk hn5.blk (by omega) rfl (by decide)
  have ho5 := own_rmk (ho4.ext hn5.ext) hone
  obtain ⟨W', st, ld, ow, xx, _, _⟩ := agg_end (t := T_impl_Rat) ((b1.ext y3).ext (y4.trans hn5.ext)) (X3.trans (y4.trans hn5.ext)) (by omega) ho5 (by kernel_rfl) rfl (by omega) (by omega)
  refine ⟨W', st, _, _, _, _, _, _, _, ld, _, _, rfl, ow, ?_, xx⟩
  exact nodup_append nd4 (by simp) (m := w4.heap.size) (fun k hk => (ho4.lt k hk).2) (fun k hk => by simp at hk; omega)
theorem spec_MoneyRat_n {w : World} {xs : List Value} {c : ByteArray} {N : Int} (h : Reps w xs (.str c :: enc N)) (hok : moneyOk (.str c :: enc N) = true) :
    Ret P n_spec_MoneyRat [.agg ⟨xs⟩] w fun v w' => ∃ vs f, v = .agg ⟨vs⟩ ∧ Owns w' w.heap.size vs (rmk N 1) f ∧ f.Nodup ∧ Ext w w' := by
  have hr := h
  obtain ⟨t0, a0, ap, an, ac, az, rfl, hd, ha⟩ := open_Money h rfl
  simp only [enc, List.cons.injEq, D0.str.injEq, D0.bool.injEq, D0.ints.injEq, and_true] at hd
  obtain ⟨rfl, rfl, rfl⟩ := hd
  have hla := ha.1
  have h4 : (digs N.natAbs).length ≤ 4 := by
    simp only [moneyOk, enc, Bool.and_eq_true, decide_eq_true_eq] at hok
    exact hok.2
  refine spec_MoneyRat_ret ?_
  unfold spec_MoneyRat
  intro r w1 hn1 r1 w2 hn2
  have e1 := hn1.r_eq; have e2 := hn2.r_eq; have z1 := hn1.size; have z2 := hn2.size
  have X := hn1.ext.trans hn2.ext
  have b0 := hn1.blk.ext hn2.ext; have b1 := hn2.blk
  refine ⟨_, _, _, _, _, b0.loadA0 (by kernel_rfl), ?_⟩
  refine Ret.at (spec_MoneyOk_c (hr.ext X) rfl) ?_
  rintro v w3 ⟨hv, y3⟩
  subst hv
  rw [hok]
  refine ⟨_, rfl, ifN (fun hh => absurd hh (by simp)) (fun _ => ?_)⟩
  have l3 := y3.le
  have X3 := X.trans y3
  have hs : Reps w3 [.bool (decide (N < 0)), .slice ap an ac] (enc N) := ⟨rfl, ⟨_, _, _, rfl, ha.ext X3⟩, trivial⟩
  refine ⟨_, _, _, _, (b0.ext y3).loadAAt 1 [.bool (decide (N < 0)), .slice ap an ac] rfl (by kernel_rfl) rfl, ?_⟩
  refine Ret.at (spec_RatInt_n hs (by omega)) ?_
  rintro v w4 ⟨vs4, f4, hv, ho4, nd4, y4⟩
  subst hv
  rw [redR_int (by omega)] at ho4
  have hr4 := ho4.reps
  obtain ⟨g0, gp, gn, gc, gz, gp2, gn2, gc2, gz2, rfl, _, _, _⟩ := open_Rat hr4 (rmk_code _ _)
  refine ⟨_, _, _, _, _, _, _, _, rfl, ?_⟩
  intro r5 w5 hn5
  have e5 := hn5.r_eq; have z5 := hn5.size; have l4 := y4.le
  obtain ⟨w6, st6, hb6, y6⟩ := hn5.fill (P := P) (t := T_impl_Rat) (xs := [.bool g0, .slice gp gn gc, .slice gp2 gn2 gc2]) (by simp [Value.oneCell']) (by kernel_rfl) rfl
  obtain ⟨W', st, ld, ow, xx, _, _⟩ := agg_end (t := T_impl_Rat) ((b1.ext y3).ext (y4.trans y6)) (X3.trans (y4.trans y6)) (by omega) (ho4.ext y6) (by kernel_rfl) rfl (by omega) (by omega)
  exact ⟨w6, st6, _, _, _, _, _, _, _, hb6.loadA0 (by kernel_rfl), W', st, _, _, _, _, _, _, _, ld, _, _, rfl, ow, nd4, xx⟩
end Go.Proofs.YtfemmmbkhhemaaaGreatDoor

namespace Go.Proofs.YtfemmmbkhhemaaaGreatDoor
open Go Go.Proofs.YtfemmmbkhhemaaaGreatDoor.Sx
set_option linter.unusedVariables false
set_option linter.unusedSimpArgs false
theorem decOk_parts {b : Bool} {z : List Int} {s : Int} (h : decOk [.bool b, .ints z, .int s] = true) : intOk [.bool b, .ints z] = true ∧ natOk z = true ∧ Limbs z ∧ z.length ≤ 6 ∧ 0 ≤ s ∧ s ≤ 30 := by
  simp only [decOk, Bool.and_eq_true, decide_eq_true_eq] at h
  obtain ⟨⟨h1, h2⟩, h3⟩ := h
  have h4 : natOk z = true := by
    have := h1
    simp only [intOk, Bool.and_eq_true] at this
    exact this.1
  exact ⟨h1, h4, (natOk_spec.1 h4).1.1, h2, h3⟩
/-- a tax rate, as a number that is not negative -/
theorem taxOk_nn {b : Bool} {z : List Int} {s : Int} (h : taxOk [.bool b, .ints z, .int s] = true) : ∃ m t : Nat, b = false ∧ z = digs m ∧ s = (t : Int) ∧ t ≤ 30 ∧ (val z).toNat = m ∧ s.toNat = t ∧ m < 1000000000 := by
  simp only [taxOk, Bool.and_eq_true, decide_eq_true_eq, Bool.not_eq_true'] at h
  obtain ⟨⟨⟨h1, h2⟩, h3⟩, _⟩ := h
  obtain ⟨_, hno, hz, _, h4, h5⟩ := decOk_parts h1
  have hc := (natOk_spec.1 hno).1
  refine ⟨(val z).toNat, s.toNat, h3, (digs_val hc).symm, by omega, by omega, rfl, rfl, ?_⟩
  have hlt := val_lt hz
  have hp : (1000000000 : Int) ^ z.length ≤ 1000000000 := by
    match z, h2 with
    | [], _ => decide
    | [x], _ =>
      show (1000000000 : Int) ^ 1 ≤ 1000000000
      decide
    | _ :: _ :: _, h2 => simp at h2
  have := val_nonneg hz
  omega
theorem one_len {m : Nat} (h : m < 1000000000) : (digs m).length ≤ 1 := digs_len 1 (by simpa using h)
end Go.Proofs.YtfemmmbkhhemaaaGreatDoor

namespace Go.Proofs.YtfemmmbkhhemaaaGreatDoor
open Go Go.Proofs.YtfemmmbkhhemaaaGreatDoor.Sx
set_option linter.unusedVariables false
set_option linter.unusedSimpArgs false
theorem rmMoney_code (c : ByteArray) (N : Int) (D : Nat) (m : Int) : (rmMoney c N D m).map D0.code = [.str, .bool, .ints] := by unfold rmMoney; split <;> rfl
theorem restR_code (N : Int) (D : Nat) (m : Int) : (restR N D m).map D0.code = [.bool, .ints, .ints] := redR_code _ _
theorem rmRest_code (c : ByteArray) (N : Int) (D : Nat) (m : Int) : (rmRest c N D m).map D0.code = [.bool, .ints, .ints] := by
  unfold rmRest
  split
  · exact restR_code _ _ _
  · rfl
theorem redR_cnt (n : Int) (d : Nat) : tcnts (redR n d) ≤ 100 := by
  unfold redR
  split
  · rename_i h
    simp only [redOk, Bool.and_eq_true, decide_eq_true_eq] at h
    simp only [rmk, tcnts, redN_abs]
    have : redD n d = d / Nat.gcd n.natAbs d := rfl
    rw [this]
    omega
  · decide
end Go.Proofs.YtfemmmbkhhemaaaGreatDoor

namespace Go.Proofs.YtfemmmbkhhemaaaGreatDoor
open Go Go.Proofs.YtfemmmbkhhemaaaGreatDoor.Sx
set_option linter.unusedVariables false
set_option linter.unusedSimpArgs false
theorem alk_enc {c : ByteArray} {d p : Int} (h : moneyOk (.str c :: enc d) = true) (g : moneyOk (.str c :: enc p) = true) : alk (.str c :: enc d) (.str c :: enc p) = true := by
  have h' : moneyOk [.str c, .bool (decide (d < 0)), .ints (digs d.natAbs)] = true := h
  have g' : moneyOk [.str c, .bool (decide (p < 0)), .ints (digs p.natAbs)] = true := g
  show (moneyOk [.str c, .bool (decide (d < 0)), .ints (digs d.natAbs)] && (moneyOk [.str c, .bool (decide (p < 0)), .ints (digs p.natAbs)] && decide (c = c))) = true
  rw [h', g', decide_eq_true rfl]; rfl
theorem money_len {c : ByteArray} {d : Int} (h : moneyOk (.str c :: enc d) = true) : (digs d.natAbs).length ≤ 4 := by
  have h' : (curKnown c && intOk (enc d) && decide ((digs d.natAbs).length ≤ 4)) = true := h
  rw [Bool.and_eq_true, decide_eq_true_eq] at h'
  exact h'.2
theorem redN_nn {n : Int} {d : Nat} (h : 0 ≤ n) : 0 ≤ redN n d := by unfold redN; rw [if_neg (by omega)]; exact Int.natCast_nonneg _
theorem impl_MoneySub_e {w : World} {xs ys : List Value} {c : ByteArray} {d p : Int} (h : Reps w xs (.str c :: enc d)) (g : Reps w ys (.str c :: enc p)) (okd : moneyOk (.str c :: enc d) = true) (okp : moneyOk (.str c :: enc p) = true) (ht : Tab w) :
    Ret P n_impl_MoneySub [.agg ⟨xs⟩, .agg ⟨ys⟩] w fun v w' => ∃ vs f, v = .tuple #[.agg ⟨vs⟩, .bool (moneyOk (.str c :: enc (d - p)))] ∧ Owns w' w.heap.size vs (moneyMk c (d - p)) f ∧ f.Nodup ∧ Ext w w' := by
  have k := impl_MoneySub_n h g ht
  change Ret P _ _ _ (fun v w' => ∃ vs f, v = .tuple #[.agg ⟨vs⟩, .bool (mres (alk (.str c :: enc d) (.str c :: enc p)) c (ival (enc d) - ival (enc p))).1] ∧ Owns w' w.heap.size vs (mres (alk (.str c :: enc d) (.str c :: enc p)) c (ival (enc d) - ival (enc p))).2 f ∧ f.Nodup ∧ Ext w w') at k
  rw [alk_enc okd okp, ival_enc, ival_enc] at k
  exact k
theorem spec_MoneySub_e {w : World} {xs ys : List Value} {c : ByteArray} {d p : Int} (h : Reps w xs (.str c :: enc d)) (g : Reps w ys (.str c :: enc p)) (okd : moneyOk (.str c :: enc d) = true) (okp : moneyOk (.str c :: enc p) = true) :
    Ret P n_spec_MoneySub [.agg ⟨xs⟩, .agg ⟨ys⟩] w fun v w' => ∃ vs f, v = .tuple #[.agg ⟨vs⟩, .bool (moneyOk (.str c :: enc (d - p)))] ∧ Owns w' w.heap.size vs (moneyMk c (d - p)) f ∧ f.Nodup ∧ Ext w w' := by
  have k := spec_MoneySub_n h g
  change Ret P _ _ _ (fun v w' => ∃ vs f, v = .tuple #[.agg ⟨vs⟩, .bool (mres (alk (.str c :: enc d) (.str c :: enc p)) c (ival (enc d) - ival (enc p))).1] ∧ Owns w' w.heap.size vs (mres (alk (.str c :: enc d) (.str c :: enc p)) c (ival (enc d) - ival (enc p))).2 f ∧ f.Nodup ∧ Ext w w') at k
  rw [alk_enc okd okp, ival_enc, ival_enc] at k
  exact k
theorem enc_cnt {c : ByteArray} {i : Int} (h : moneyOk (.str c :: enc i) = true) : tcnts (.str c :: enc i) ≤ 1000000 := by
  have := money_len h
  simp only [enc, tcnts]
  omega
end Go.Proofs.YtfemmmbkhhemaaaGreatDoor

namespace Go.Proofs.YtfemmmbkhhemaaaGreatDoor
open Go Go.Proofs.YtfemmmbkhhemaaaGreatDoor.Sx
set_option linter.unusedVariables false
set_option linter.unusedSimpArgs false
theorem div_sign {N : Int} {K : Int} {D : Nat} (hK : 0 < K) (hD : 0 < D) : (!(decide (N < 0) == decide (K < 0))) = decide (N * (D : Int) < 0) := by
  rw [decide_eq_false (show ¬ K < 0 by omega)]
  by_cases h : N < 0
  · have := Int.mul_neg_of_neg_of_pos h (show (0 : Int) < D by omega)
    simp [h, this]
  · have := Int.mul_nonneg (show 0 ≤ N by omega) (show (0 : Int) ≤ D by omega)
    rw [decide_eq_false h, decide_eq_false (by omega)]; rfl
theorem digs_ne {n : Nat} (h : 0 < n) : (digs n).length ≠ 0 := fun e => by
  have h1 := List.eq_nil_of_length_eq_zero e
  have h2 := val_digs n
  rw [h1] at h2
  have h3 : val [] = 0 := rfl
  rw [h3] at h2; omega
theorem impl_RatDiv_n {w : World} {xs ys : List Value} {N1 N2 : Int} {D1 D2 : Nat} (h : Reps w xs (rmk N1 D1)) (g : Reps w ys (rmk N2 D2)) (hok : ratOk (rmk N1 D1) = true) (gok : ratOk (rmk N2 D2) = true) (hK : 0 < N2) :
    Ret P n_impl_RatDiv [.agg ⟨xs⟩, .agg ⟨ys⟩] w fun v w' => ∃ vs f, v = .tuple #[.agg ⟨vs⟩, .bool (redOk (N1 * (D2 : Int)) (D1 * N2.natAbs))] ∧ Owns w' w.heap.size vs (redR (N1 * (D2 : Int)) (D1 * N2.natAbs)) f ∧ f.Nodup ∧ Ext w w' := by
  have hr := h; have gr := g
  obtain ⟨p1, n1, c1, q1, m1, d1, rfl, i1, i2, li1, li2, he, hd1⟩ := rmk_open h hok
  obtain ⟨p2, n2, c2, q2, m2, d2, rfl, j1, j2, lj1, lj2, ke, hd2⟩ := rmk_open g gok
  have ei1 := i1.1; have ei2 := i2.1; have ej1 := j1.1; have ej2 := j2.1
  have hn0 := digs_ne (show 0 < N2.natAbs by omega)
  have pN := prod_len (x := N1.natAbs) (y := D2) (i := 18) (j := 18) (by omega) (by omega)
  have pD := prod_len (x := D1) (y := N2.natAbs) (i := 18) (j := 18) (by omega) (by omega)
  have eN : (N1 * (D2 : Int)).natAbs = N1.natAbs * D2 := by rw [Int.natAbs_mul, Int.natAbs_natCast]
  refine impl_RatDiv_ret ?_
  unfold impl_RatDiv
  intro r w1 hn1 r1 w2 hn2 r2 w3 hn3
  have e1 := hn1.r_eq; have e2 := hn2.r_eq; have e3 := hn3.r_eq; have z1 := hn1.size; have z2 := hn2.size; have z3 := hn3.size
  have X := (hn1.ext.trans hn2.ext).trans hn3.ext
  have b0 := (hn1.blk.ext hn2.ext).ext hn3.ext; have b1 := hn2.blk.ext hn3.ext; have b2 := hn3.blk
  refine ⟨_, _, _, _, _, _, _, b0.loadA0 (by kernel_rfl), _, _, _, _, _, _, _, b1.loadA0 (by kernel_rfl), ?_⟩
  refine Ret.at (impl_ratsOk_c (hr.ext X) (gr.ext X) hok gok) ?_
  rintro v w4 ⟨hv, y4⟩
  subst hv
  refine ⟨_, rfl, ifN (fun hh => absurd hh (by simp)) (fun _ => ⟨_, _, _, (b1.ext y4).loadAt 1 rfl (by kernel_rfl) rfl, ifD (fun hh => absurd hh (by omega)) (fun _ => ?_)⟩)⟩
  unfold impl_RatDiv_j0
  have D := Ext.drew w4
  have Y := y4.trans D
  have X4 := X.trans Y
  have lY := Y.le
  have b0 := b0.ext Y; have b1 := b1.ext Y; have b2 := b2.ext Y
  refine ⟨_, fun W hW => (b0.ext hW).loadAt 0 rfl (by kernel_rfl) rfl, _, fun W hW => (b1.ext hW).loadAt 0 rfl (by kernel_rfl) rfl, _, _, _, fun W hW => (b0.ext hW).loadAt 1 rfl (by kernel_rfl) rfl, _, _, _, fun W hW => (b1.ext hW).loadAt 2 rfl (by kernel_rfl) rfl, ?_⟩
  refine Ret.at (impl_natMul_c (i1.ext X4) (j2.ext X4) (digs_limbs _) (digs_limbs _) (by omega) (by omega)) ?_
  rintro v w6 ⟨p6, n6, c6, hv, o6, y6⟩
  subst hv
  rw [val_mul] at o6
  have l6 := o6.ints.1
  have l6' := y6.le
  refine ⟨_, _, _, rfl, y6, ?_⟩
  refine Ret.at (impl_signed_c (neg := !(decide (N1 < 0) == decide (N2 < 0))) o6.ints.1) ?_
  rintro v w7 ⟨hv, y7⟩
  subst hv
  have o7 := own_int (b := !(decide (N1 < 0) == decide (N2 < 0))) (o6.ext y7) (z := N1 * (D2 : Int)) eN.symm (fun _ => div_sign hK hd2)
  have l7' := y7.le
  refine ⟨_, _, _, _, rfl, y7, _, _, _, fun W hW => (b0.ext hW).loadAt 2 rfl (by kernel_rfl) rfl, _, _, _, fun W hW => (b1.ext hW).loadAt 1 rfl (by kernel_rfl) rfl, ?_⟩
  refine Ret.at (impl_natMul_c (i2.ext (X4.trans (y6.trans y7))) (j1.ext (X4.trans (y6.trans y7))) (digs_limbs _) (digs_limbs _) (by omega) (by omega)) ?_
  rintro v w8 ⟨p8, n8, c8, hv, o8, y8⟩
  subst hv
  rw [val_mul] at o8
  have l8 := o8.ints.1
  have l8' := y8.le
  have YY := (y6.trans y7).trans y8
  refine ⟨_, _, _, rfl, ?_⟩
  refine Ret.at (impl_reduce_c (o7.reps.ext y8) o8.ints (Nat.mul_pos hd1 (by omega)) (by rw [eN]; omega) (by omega)) ?_
  rintro v w99 ⟨vs9, f9, hv, ho9, nd9, y99⟩
  subst hv
  obtain ⟨zb, zp, zn, zc, zz, zp2, zn2, zc2, zz2, rfl, _, _, _⟩ := open_Rat ho9.reps (redR_code _ _)
  obtain ⟨W', st', ld', ow', xx', _, _⟩ := agg_end (t := T_impl_Rat) ((b2.ext YY).ext y99) ((X4.trans YY).trans y99) (by omega) ho9 (by kernel_rfl) rfl (by omega) (by omega)
  exact ⟨_, _, _, _, _, _, _, _, rfl, W', st', _, _, _, _, _, _, _, ld', _, f9, rfl, ow', nd9, xx'⟩
theorem spec_RatDiv_n {w : World} {xs ys : List Value} {N1 N2 : Int} {D1 D2 : Nat} (h : Reps w xs (rmk N1 D1)) (g : Reps w ys (rmk N2 D2)) (hok : ratOk (rmk N1 D1) = true) (gok : ratOk (rmk N2 D2) = true) (hK : 0 < N2) :
    Ret P n_spec_RatDiv [.agg ⟨xs⟩, .agg ⟨ys⟩] w fun v w' => ∃ vs f, v = .tuple #[.agg ⟨vs⟩, .bool (redOk (N1 * (D2 : Int)) (D1 * N2.natAbs))] ∧ Owns w' w.heap.size vs (redR (N1 * (D2 : Int)) (D1 * N2.natAbs)) f ∧ f.Nodup ∧ Ext w w' := by
  have hr := h; have gr := g
  obtain ⟨p1, n1, c1, q1, m1, d1, rfl, i1, i2, li1, li2, he, hd1⟩ := rmk_open h hok
  obtain ⟨p2, n2, c2, q2, m2, d2, rfl, j1, j2, lj1, lj2, ke, hd2⟩ := rmk_open g gok
  have ei1 := i1.1; have ei2 := i2.1; have ej1 := j1.1; have ej2 := j2.1
  have hn0 := digs_ne (show 0 < N2.natAbs by omega)
  have pN := prod_len (x := N1.natAbs) (y := D2) (i := 18) (j := 18) (by omega) (by omega)
  have pD := prod_len (x := D1) (y := N2.natAbs) (i := 18) (j := 18) (by omega) (by omega)
  have eN : (N1 * (D2 : Int)).natAbs = N1.natAbs * D2 := by rw [Int.natAbs_mul, Int.natAbs_natCast]
  refine spec_RatDiv_ret ?_
  unfold spec_RatDiv
  intro r w1 hn1 r1 w2 hn2 r2 w3 hn3
  have e1 := hn1.r_eq; have e2 := hn2.r_eq; have e3 := hn3.r_eq; have z1 := hn1.size; have z2 := hn2.size; have z3 := hn3.size
  have X := (hn1.ext.trans hn2.ext).trans hn3.ext
  have b0 := (hn1.blk.ext hn2.ext).ext hn3.ext; have b1 := hn2.blk.ext hn3.ext; have b2 := hn3.blk
  refine ⟨_, _, _, _, _, _, _, b0.loadA0 (by kernel_rfl), ?_⟩
  refine Ret.at (spec_RatOk_c (hr.ext X) (rmk_code _ _)) ?_
  rintro v w5 ⟨hv, y5⟩
  subst hv
  rw [hok]
  refine ⟨_, rfl, ifN (fun hh => absurd hh (by simp)) (fun _ => ⟨_, _, _, _, _, _, _, (b1.ext y5).loadA0 (by kernel_rfl), ?_⟩)⟩
  refine Ret.at (spec_RatOk_c (gr.ext (X.trans y5)) (rmk_code _ _)) ?_
  rintro v w4 ⟨hv, y4⟩
  subst hv
  rw [gok]
  refine ⟨_, rfl, ifN (fun hh => absurd hh (by simp)) (fun _ => ?_)⟩
  unfold spec_RatDiv_j0
  have D := Ext.drew w4
  have Y := (y5.trans y4).trans D
  have X4 := X.trans Y
  have lY := Y.le
  have b0 := b0.ext Y; have b1 := b1.ext Y; have b2 := b2.ext Y
  refine ⟨_, fun W hW => (b0.ext hW).loadAt 0 rfl (by kernel_rfl) rfl, _, fun W hW => (b1.ext hW).loadAt 0 rfl (by kernel_rfl) rfl, _, _, _, fun W hW => (b0.ext hW).loadAt 1 rfl (by kernel_rfl) rfl, _, _, _, fun W hW => (b1.ext hW).loadAt 2 rfl (by kernel_rfl) rfl, ?_⟩
  refine Ret.at (spec_l02Mul_c (i1.ext X4) (j2.ext X4) (digs_limbs _) (digs_limbs _) (by omega) (by omega)) ?_
  rintro v w6 ⟨p6, n6, c6, hv, o6, y6⟩
  subst hv
  rw [val_mul] at o6
  have l6 := o6.ints.1
  have l6' := y6.le
  refine ⟨_, _, _, rfl, y6, _, _, _, fun W hW => (b0.ext hW).loadAt 2 rfl (by kernel_rfl) rfl, _, _, _, fun W hW => (b1.ext hW).loadAt 1 rfl (by kernel_rfl) rfl, ?_⟩
  refine Ret.at (spec_l02Mul_c (i2.ext (X4.trans y6)) (j1.ext (X4.trans y6)) (digs_limbs _) (digs_limbs _) (by omega) (by omega)) ?_
  rintro v w8 ⟨p8, n8, c8, hv, o8, y8⟩
  subst hv
  rw [val_mul] at o8
  rw [← eN] at o6 pN l6
  have l8 := o8.ints.1
  have l8' := y8.le
  have YY := y6.trans y8
  refine ⟨_, _, _, rfl, y8, ?_⟩
  refine Ret.at (spec_l05Low_c (n := N1 * (D2 : Int)) (o6.ints.ext y8) o8.ints (fun _ => div_sign hK hd2) (Nat.mul_pos hd1 (by omega)) (by omega) (by omega)) ?_
  rintro v w99 ⟨vs9, f9, hv, ho9, nd9, y99⟩
  subst hv
  obtain ⟨zb, zp, zn, zc, zz, zp2, zn2, zc2, zz2, rfl, _, _, _⟩ := open_Rat ho9.reps (redR_code _ _)
  obtain ⟨W', st', ld', ow', xx', _, _⟩ := agg_end (t := T_impl_Rat) ((b2.ext YY).ext y99) ((X4.trans YY).trans y99) (by omega) ho9 (by kernel_rfl) rfl (by omega) (by omega)
  exact ⟨_, _, _, _, _, _, _, _, rfl, W', st', _, _, _, _, _, _, _, ld', _, f9, rfl, ow', nd9, xx'⟩
def inK (m t : Nat) : Int := redN (1 * (redD (m : Int) (10 ^ t) : Int) + redN (m : Int) (10 ^ t) * ((1 : Nat) : Int)) (1 * redD (m : Int) (10 ^ t))
def inE (m t : Nat) : Nat := redD (1 * (redD (m : Int) (10 ^ t) : Int) + redN (m : Int) (10 ^ t) * ((1 : Nat) : Int)) (1 * redD (m : Int) (10 ^ t))
def inN (u : Int) (m t : Nat) : Int := redN (u * (inE m t : Int)) (1 * (inK m t).natAbs)
def inD (u : Int) (m t : Nat) : Nat := redD (u * (inE m t : Int)) (1 * (inK m t).natAbs)
/-- all that the tax in an amount is made of is a valid fraction, and short -/
theorem in_facts {u : Int} {m t : Nat} (hu : (digs u.natAbs).length ≤ 4) (hm : (digs m).length ≤ 1) (ht : t ≤ 30) :
    (redR (m : Int) (10 ^ t) = rmk (redN (m : Int) (10 ^ t)) (redD (m : Int) (10 ^ t)) ∧ ratOk (rmk (redN (m : Int) (10 ^ t)) (redD (m : Int) (10 ^ t))) = true) ∧
    (redOk (1 * (redD (m : Int) (10 ^ t) : Int) + redN (m : Int) (10 ^ t) * ((1 : Nat) : Int)) (1 * redD (m : Int) (10 ^ t)) = true ∧ redR (1 * (redD (m : Int) (10 ^ t) : Int) + redN (m : Int) (10 ^ t) * ((1 : Nat) : Int)) (1 * redD (m : Int) (10 ^ t)) = rmk (inK m t) (inE m t) ∧ ratOk (rmk (inK m t) (inE m t)) = true ∧ 0 < inK m t) ∧
    (redOk (u * (inE m t : Int)) (1 * (inK m t).natAbs) = true ∧ redR (u * (inE m t : Int)) (1 * (inK m t).natAbs) = rmk (inN u m t) (inD u m t) ∧ ratOk (rmk (inN u m t) (inD u m t)) = true ∧ (digs (inN u m t).natAbs).length ≤ 10 ∧ (digs (inD u m t)).length ≤ 6) := by
  have hpow : 0 < 10 ^ t := Nat.pow_pos (by decide)
  have hten := ten_len ht
  have k4 := redOk_small (n := (m : Int)) (d := 10 ^ t) (by rw [Int.natAbs_natCast]; omega) (by omega)
  have k5 := redR_yes k4
  have k6 := redR_ok hpow k4
  have h1 : (digs (redN (m : Int) (10 ^ t)).natAbs).length ≤ 1 := Nat.le_trans redN_len (by rw [Int.natAbs_natCast]; exact hm)
  have h2 : (digs (redD (m : Int) (10 ^ t))).length ≤ 4 := Nat.le_trans redD_len hten
  have hd : 0 < redD (m : Int) (10 ^ t) := redD_pos hpow
  have hn : 0 ≤ redN (m : Int) (10 ^ t) := redN_nn (by omega)
  rw [k5] at k6
  refine ⟨⟨k5, k6⟩, ?_⟩
  have sN : (1 * (redD (m : Int) (10 ^ t) : Int) + redN (m : Int) (10 ^ t) * ((1 : Nat) : Int)) = (redD (m : Int) (10 ^ t) : Int) + redN (m : Int) (10 ^ t) := by rw [Int.one_mul]; show _ + _ * 1 = _; rw [Int.mul_one]
  have s1 : (digs ((redD (m : Int) (10 ^ t) : Int) + redN (m : Int) (10 ^ t)).natAbs).length ≤ 5 := sum_len (i := 4) (by rw [Int.natAbs_natCast]; exact h2) (by omega)
  have s2 : (digs (1 * redD (m : Int) (10 ^ t))).length ≤ 4 := by rw [Nat.one_mul]; exact h2
  unfold inN inD
  have hK : 0 < inK m t := by
    unfold inK
    rw [sN, Nat.one_mul]
    have h3 : 0 ≤ redN ((redD (m : Int) (10 ^ t) : Int) + redN (m : Int) (10 ^ t)) (redD (m : Int) (10 ^ t)) := redN_nn (by omega)
    have h4 : (redN ((redD (m : Int) (10 ^ t) : Int) + redN (m : Int) (10 ^ t)) (redD (m : Int) (10 ^ t))).natAbs ≠ 0 := by
      rw [redN_abs]
      have h5 : 0 < ((redD (m : Int) (10 ^ t) : Int) + redN (m : Int) (10 ^ t)).natAbs := by omega
      have h6 := Nat.div_pos (Nat.le_of_dvd h5 (Nat.gcd_dvd_left ((redD (m : Int) (10 ^ t) : Int) + redN (m : Int) (10 ^ t)).natAbs (redD (m : Int) (10 ^ t)))) (gcd_pos_right hd)
      omega
    omega
  have lK : (digs (inK m t).natAbs).length ≤ 5 := by
    unfold inK
    refine Nat.le_trans redN_len ?_
    rw [sN]; exact s1
  have lE : (digs (inE m t)).length ≤ 4 := by
    unfold inE
    exact Nat.le_trans redD_len s2
  have a1 := redOk_small (n := (1 * (redD (m : Int) (10 ^ t) : Int) + redN (m : Int) (10 ^ t) * ((1 : Nat) : Int))) (d := 1 * redD (m : Int) (10 ^ t)) (by rw [sN]; omega) (by omega)
  have a2 := redR_yes a1
  have a3 := redR_ok (n := (1 * (redD (m : Int) (10 ^ t) : Int) + redN (m : Int) (10 ^ t) * ((1 : Nat) : Int))) (d := 1 * redD (m : Int) (10 ^ t)) (by omega) a1
  rw [a2] at a3
  refine ⟨⟨a1, a2, a3, hK⟩, ?_⟩
  have p1 : (digs (u * (inE m t : Int)).natAbs).length ≤ 8 := by rw [Int.natAbs_mul, Int.natAbs_natCast]; exact prod_len hu lE
  have p2 : (digs (1 * (inK m t).natAbs)).length ≤ 5 := by rw [Nat.one_mul]; exact lK
  have c1 := redOk_small (n := u * (inE m t : Int)) (d := 1 * (inK m t).natAbs) (by omega) (by omega)
  have c2 := redR_yes c1
  have c3 := redR_ok (n := u * (inE m t : Int)) (d := 1 * (inK m t).natAbs) (by omega) c1
  rw [c2] at c3
  exact ⟨c1, c2, c3, Nat.le_trans redN_len (by omega), Nat.le_trans redD_len (by omega)⟩
def taxInT : List D0 → List D0 → Int → Bool × List D0 × List D0 × List D0
  | [.str c, .bool b, .ints z], [.bool b2, .ints z2, .int s], mode =>
    if (moneyOk [.str c, .bool b, .ints z] && taxOk [.bool b2, .ints z2, .int s]) && (rmOk c (inN (ival [.bool b, .ints z]) (val z2).toNat s.toNat) (inD (ival [.bool b, .ints z]) (val z2).toNat s.toNat) mode && moneyOk (.str c :: enc (ival [.bool b, .ints z] - rround (inN (ival [.bool b, .ints z]) (val z2).toNat s.toNat) (inD (ival [.bool b, .ints z]) (val z2).toNat s.toNat) mode))) then
      (true, .str c :: enc (rround (inN (ival [.bool b, .ints z]) (val z2).toNat s.toNat) (inD (ival [.bool b, .ints z]) (val z2).toNat s.toNat) mode), .str c :: enc (ival [.bool b, .ints z] - rround (inN (ival [.bool b, .ints z]) (val z2).toNat s.toNat) (inD (ival [.bool b, .ints z]) (val z2).toNat s.toNat) mode), restR (inN (ival [.bool b, .ints z]) (val z2).toNat s.toNat) (inD (ival [.bool b, .ints z]) (val z2).toNat s.toNat) mode)
    else (false, zeroMoney, zeroMoney, rat0)
  | _, _, _ => (false, zeroMoney, zeroMoney, rat0)
theorem taxInT_facts (d0 d1 : List D0) (m : Int) : ((taxInT d0 d1 m).2.1).map D0.code = [.str, .bool, .ints] ∧ tcnts (taxInT d0 d1 m).2.1 ≤ 1000000000 ∧ ((taxInT d0 d1 m).2.2.1).map D0.code = [.str, .bool, .ints] ∧ tcnts (taxInT d0 d1 m).2.2.1 ≤ 1000000000 ∧ ((taxInT d0 d1 m).2.2.2).map D0.code = [.bool, .ints, .ints] ∧ tcnts (taxInT d0 d1 m).2.2.2 ≤ 1000000000 := by
  unfold taxInT
  split
  · split
    · rename_i h
      simp only [Bool.and_eq_true, rmOk] at h
      obtain ⟨_, ⟨_, h1⟩, h2⟩ := h
      have h3 := enc_cnt h1; have h4 := enc_cnt h2
      refine ⟨rfl, Int.le_trans h3 (by decide), rfl, Int.le_trans h4 (by decide), restR_code _ _ _, ?_⟩
      unfold restR
      exact Int.le_trans (redR_cnt _ _) (by decide)
    · exact ⟨rfl, by decide, rfl, by decide, rfl, by decide⟩
  · exact ⟨rfl, by decide, rfl, by decide, rfl, by decide⟩
/-- three results: stored, one after the other, and loaded -/
theorem three_end {t1 t2 t3 : TypeId} {w W : World} {r1 r2 r3 : Nat} {e1 e2 e3 : TypeId} {o1 o2 o3 xs1 xs2 xs3 : List Value} {d1 d2 d3 : List D0} {f1 f2 f3 : List Nat} {B : Nat} (hb1 : Blk W r1 e1 o1) (hb2 : Blk W r2 e2 o2) (hb3 : Blk W r3 e3 o3) (X : Ext w W)
    (ho1 : Owns W B xs1 d1 f1) (ho2 : Owns W B xs2 d2 f2) (ho3 : Owns W B xs3 d3 f3) (ht1 : aggT P t1 xs1.length = true) (hl1 : xs1.length = o1.length) (ht2 : aggT P t2 xs2.length = true) (hl2 : xs2.length = o2.length) (ht3 : aggT P t3 xs3.length = true) (hl3 : xs3.length = o3.length) (hr : w.heap.size ≤ r1 ∧ r1 < r2 ∧ r2 < r3 ∧ r3 < B) :
    ∃ W1 W2 W3, Stores P t1 ⟨r1, 0, none⟩ (.agg ⟨xs1⟩) W W1 ∧ Chg [r1, r2, r3] W W1 ∧ Stores P t2 ⟨r2, 0, none⟩ (.agg ⟨xs2⟩) W1 W2 ∧ Chg [r1, r2, r3] W1 W2 ∧ Stores P t3 ⟨r3, 0, none⟩ (.agg ⟨xs3⟩) W2 W3 ∧ Loads P t1 ⟨r1, 0, none⟩ (.agg ⟨xs1⟩) W3 ∧ Loads P t2 ⟨r2, 0, none⟩ (.agg ⟨xs2⟩) W3 ∧ Loads P t3 ⟨r3, 0, none⟩ (.agg ⟨xs3⟩) W3 ∧ Owns W3 w.heap.size xs1 d1 f1 ∧ Owns W3 w.heap.size xs2 d2 f2 ∧ Owns W3 w.heap.size xs3 d3 f3 ∧ Ext w W3 := by
  obtain ⟨h1, h2, h3, h4⟩ := hr
  obtain ⟨W1, st1, b1, ch1, _⟩ := hb1.storeA0 (P := P) (t := t1) (xs := xs1) ht1 hl1 ho1.reps.cells1
  obtain ⟨W2, st2, b2, ch2, _⟩ := (hb2.chg ch1 (by simp; omega)).storeA0 (P := P) (t := t2) (xs := xs2) ht2 hl2 ho2.reps.cells1
  obtain ⟨W3, st3, b3, ch3, _⟩ := ((hb3.chg ch1 (by simp; omega)).chg ch2 (by simp; omega)).storeA0 (P := P) (t := t3) (xs := xs3) ht3 hl3 ho3.reps.cells1
  refine ⟨W1, W2, W3, st1, ch1.mono (fun k hk => by simp at hk ⊢; omega), st2, ch2.mono (fun k hk => by simp at hk ⊢; omega), st3, ((b1.chg ch2 (by simp; omega)).chg ch3 (by simp; omega)).loadA0 ht1, (b2.chg ch3 (by simp; omega)).loadA0 ht2, b3.loadA0 ht3, ?_, ?_, ?_, ?_⟩
  · exact (((ho1.chg1 ch1 (by omega)).chg1 ch2 (by omega)).chg1 ch3 (by omega)).mono (by omega)
  · exact (((ho2.chg1 ch1 (by omega)).chg1 ch2 (by omega)).chg1 ch3 (by omega)).mono (by omega)
  · exact (((ho3.chg1 ch1 (by omega)).chg1 ch2 (by omega)).chg1 ch3 (by omega)).mono (by omega)
  · exact ((X.chg ch1 (by simp; omega)).chg ch2 (by simp; omega)).chg ch3 (by simp; omega)
theorem impl_TaxIn_o {w : World} {xs ys : List Value} {dx dy : List D0} (h : Reps w xs dx) (g : Reps w ys dy) (hc : dx.map D0.code = [.str, .bool, .ints]) (gc : dy.map D0.code = [.bool, .ints, .int]) (mode : Int) (ht : Tab w) :
    Ret P n_impl_TaxIn [.agg ⟨xs⟩, .agg ⟨ys⟩, .int .i64 mode] w fun v w' => ∃ vs0 f0 vs1 f1 vs2 f2, v = .tuple #[.agg ⟨vs0⟩, .agg ⟨vs1⟩, .agg ⟨vs2⟩, .bool (taxInT dx dy mode).1] ∧ Owns w' w.heap.size vs0 (taxInT dx dy mode).2.1 f0 ∧ f0.Nodup ∧ Owns w' w.heap.size vs1 (taxInT dx dy mode).2.2.1 f1 ∧ f1.Nodup ∧ Owns w' w.heap.size vs2 (taxInT dx dy mode).2.2.2 f2 ∧ f2.Nodup ∧ (∀ k ∈ f0, k ∉ f1) ∧ (∀ k ∈ f0, k ∉ f2) ∧ (∀ k ∈ f1, k ∉ f2) ∧ Ext w w' := by
  have hr := h; have gr := g
  obtain ⟨cur, a0, ap, an, ac, az, rfl, rfl, ha⟩ := open_Money h hc
  obtain ⟨b0', bp, bn, bc, bz, b2', rfl, rfl, hb⟩ := open_Dec g gc
  refine impl_TaxIn_ret ?_
  unfold impl_TaxIn
  intro r w1 hn1 r1 w2 hn2 r2 w3 hn3 r3 w4 hn4 r4 w5 hn5
  have e1 := hn1.r_eq; have e2 := hn2.r_eq; have e3 := hn3.r_eq; have e4 := hn4.r_eq; have e5 := hn5.r_eq; have z1 := hn1.size; have z2 := hn2.size; have z3 := hn3.size; have z4 := hn4.size; have z5 := hn5.size
  have X := (((hn1.ext.trans hn2.ext).trans hn3.ext).trans hn4.ext).trans hn5.ext
  have q0 := (((hn1.blk.ext hn2.ext).ext hn3.ext).ext hn4.ext).ext hn5.ext; have q1 := ((hn2.blk.ext hn3.ext).ext hn4.ext).ext hn5.ext; have q2 := (hn3.blk.ext hn4.ext).ext hn5.ext; have q3 := hn4.blk.ext hn5.ext; have q4 := hn5.blk
  have zero : ∀ W, Ext w5 W → taxInT [.str cur, .bool a0, .ints az] [.bool b0', .ints bz, .int b2'] mode = (false, zeroMoney, zeroMoney, rat0) → ∃ W1, Stores P T_impl_Money ⟨r2, 0, none⟩ (.agg ⟨[.string ByteArray.empty, .bool false, .slice none 0 0]⟩) W W1 ∧ ∃ W2, Stores P T_impl_Money ⟨r3, 0, none⟩ (.agg ⟨[.string ByteArray.empty, .bool false, .slice none 0 0]⟩) W1 W2 ∧ ∃ W3, Stores P T_impl_Rat ⟨r4, 0, none⟩ (.agg ⟨[.bool false, .slice none 0 0, .slice none 0 0]⟩) W2 W3 ∧ Loads P T_impl_Money ⟨r2, 0, none⟩ (.agg ⟨[.string ByteArray.empty, .bool false, .slice none 0 0]⟩) W3 ∧ Loads P T_impl_Money ⟨r3, 0, none⟩ (.agg ⟨[.string ByteArray.empty, .bool false, .slice none 0 0]⟩) W3 ∧ Loads P T_impl_Rat ⟨r4, 0, none⟩ (.agg ⟨[.bool false, .slice none 0 0, .slice none 0 0]⟩) W3 ∧ (fun (v : Value) (w' : World) => ∃ vs0 f0 vs1 f1 vs2 f2, v = .tuple #[.agg ⟨vs0⟩, .agg ⟨vs1⟩, .agg ⟨vs2⟩, .bool (taxInT [.str cur, .bool a0, .ints az] [.bool b0', .ints bz, .int b2'] mode).1] ∧ Owns w' w.heap.size vs0 (taxInT [.str cur, .bool a0, .ints az] [.bool b0', .ints bz, .int b2'] mode).2.1 f0 ∧ f0.Nodup ∧ Owns w' w.heap.size vs1 (taxInT [.str cur, .bool a0, .ints az] [.bool b0', .ints bz, .int b2'] mode).2.2.1 f1 ∧ f1.Nodup ∧ Owns w' w.heap.size vs2 (taxInT [.str cur, .bool a0, .ints az] [.bool b0', .ints bz, .int b2'] mode).2.2.2 f2 ∧ f2.Nodup ∧ (∀ k ∈ f0, k ∉ f1) ∧ (∀ k ∈ f0, k ∉ f2) ∧ (∀ k ∈ f1, k ∉ f2) ∧ Ext w w') (.tuple #[.agg ⟨[.string ByteArray.empty, .bool false, .slice none 0 0]⟩, .agg ⟨[.string ByteArray.empty, .bool false, .slice none 0 0]⟩, .agg ⟨[.bool false, .slice none 0 0, .slice none 0 0]⟩, .bool false]) W3 := by
    intro W hW hno
    obtain ⟨W1, W2, W3, a1, _, a2, _, a3, a4, a5, a6, a7, a8, a9, a10⟩ := three_end (t1 := T_impl_Money) (t2 := T_impl_Money) (t3 := T_impl_Rat) (q2.ext hW) (q3.ext hW) (q4.ext hW) (X.trans hW) (own_money0 W (r4 + 1)) (own_money0 W (r4 + 1)) (own_rat0 W (r4 + 1)) (by kernel_rfl) rfl (by kernel_rfl) rfl (by kernel_rfl) rfl ⟨by omega, by omega, by omega, by omega⟩
    rw [hno]
    exact ⟨W1, a1, W2, a2, W3, a3, a4, a5, a6, _, [], _, [], _, [], rfl, a7, List.nodup_nil, a8, List.nodup_nil, a9, List.nodup_nil, fun k hk => by simp at hk, fun k hk => by simp at hk, fun k hk => by simp at hk, a10⟩
  have exit : ∀ W, Ext w5 W → taxInT [.str cur, .bool a0, .ints az] [.bool b0', .ints bz, .int b2'] mode = (false, zeroMoney, zeroMoney, rat0) → ∃ W1, Stores P T_impl_Money ⟨r2, 0, none⟩ (.agg ⟨[.string ByteArray.empty, .bool false, .slice none 0 0]⟩) W W1 ∧ ∃ W2, Stores P T_impl_Money ⟨r3, 0, none⟩ (.agg ⟨[.string ByteArray.empty, .bool false, .slice none 0 0]⟩) W1 W2 ∧ ∃ W3, Stores P T_impl_Rat ⟨r4, 0, none⟩ (.agg ⟨[.bool false, .slice none 0 0, .slice none 0 0]⟩) W2 W3 ∧ ∃ (m1s : ByteArray) (m1b : Bool) (m1p : Option Addr) (m1n m1c : Nat), Loads P T_impl_Money ⟨r2, 0, none⟩ (.agg #[.string m1s, .bool m1b, .slice m1p m1n m1c]) W3 ∧ ∃ (m2s : ByteArray) (m2b : Bool) (m2p : Option Addr) (m2n m2c : Nat), Loads P T_impl_Money ⟨r3, 0, none⟩ (.agg #[.string m2s, .bool m2b, .slice m2p m2n m2c]) W3 ∧ ∃ (qb : Bool) (qp : Option Addr) (qn qc : Nat) (qp2 : Option Addr) (qn2 qc2 : Nat), Loads P T_impl_Rat ⟨r4, 0, none⟩ (.agg #[.bool qb, .slice qp qn qc, .slice qp2 qn2 qc2]) W3 ∧ (fun (v : Value) (w' : World) => ∃ vs0 f0 vs1 f1 vs2 f2, v = .tuple #[.agg ⟨vs0⟩, .agg ⟨vs1⟩, .agg ⟨vs2⟩, .bool (taxInT [.str cur, .bool a0, .ints az] [.bool b0', .ints bz, .int b2'] mode).1] ∧ Owns w' w.heap.size vs0 (taxInT [.str cur, .bool a0, .ints az] [.bool b0', .ints bz, .int b2'] mode).2.1 f0 ∧ f0.Nodup ∧ Owns w' w.heap.size vs1 (taxInT [.str cur, .bool a0, .ints az] [.bool b0', .ints bz, .int b2'] mode).2.2.1 f1 ∧ f1.Nodup ∧ Owns w' w.heap.size vs2 (taxInT [.str cur, .bool a0, .ints az] [.bool b0', .ints bz, .int b2'] mode).2.2.2 f2 ∧ f2.Nodup ∧ (∀ k ∈ f0, k ∉ f1) ∧ (∀ k ∈ f0, k ∉ f2) ∧ (∀ k ∈ f1, k ∉ f2) ∧ Ext w w') (.tuple #[.agg #[.string m1s, .bool m1b, .slice m1p m1n m1c], .agg #[.string m2s, .bool m2b, .slice m2p m2n m2c], .agg #[.bool qb, .slice qp qn qc, .slice qp2 qn2 qc2], .bool false]) W3 := by
    intro W hW hno
    obtain ⟨W1, a1, W2, a2, W3, a3, a4, a5, a6, a7⟩ := zero W hW hno
    exact ⟨W1, a1, W2, a2, W3, a3, _, _, _, _, _, a4, _, _, _, _, _, a5, _, _, _, _, _, _, _, a6, a7⟩
  refine ⟨_, _, _, _, _, q0.loadA0 (by kernel_rfl), ?_⟩
  refine Ret.at (impl_MoneyOk_c (ht.ext X) (hr.ext X) rfl) ?_
  rintro v w51 ⟨hv, y51⟩
  subst hv
  refine ⟨_, rfl, ifN (fun hno => ifT (exit _ y51 (by simp only [taxInT, hno, Bool.false_and, Bool.false_eq_true, if_false]))) (fun hm => ⟨_, _, _, _, _, (q1.ext y51).loadA0 (by kernel_rfl), ?_⟩)⟩
  refine Ret.at (impl_TaxRateOk_c (gr.ext (X.trans y51)) rfl) ?_
  rintro v w6 ⟨hv, y6⟩
  subst hv
  have Y6 := y51.trans y6
  refine ⟨_, rfl, ifN (fun hno => exit _ Y6 (by simp only [taxInT, hno, Bool.and_false, Bool.false_and, Bool.false_eq_true, if_false])) (fun ht0 => ?_)⟩
  have X6 := X.trans Y6
  have q0 := q0.ext Y6; have q1 := q1.ext Y6
  have hcomp : taxInT [.str cur, .bool a0, .ints az] [.bool b0', .ints bz, .int b2'] mode = if rmOk cur (inN (ival [.bool a0, .ints az]) (val bz).toNat b2'.toNat) (inD (ival [.bool a0, .ints az]) (val bz).toNat b2'.toNat) mode && moneyOk (.str cur :: enc (ival [.bool a0, .ints az] - rround (inN (ival [.bool a0, .ints az]) (val bz).toNat b2'.toNat) (inD (ival [.bool a0, .ints az]) (val bz).toNat b2'.toNat) mode)) then
      (true, .str cur :: enc (rround (inN (ival [.bool a0, .ints az]) (val bz).toNat b2'.toNat) (inD (ival [.bool a0, .ints az]) (val bz).toNat b2'.toNat) mode), .str cur :: enc (ival [.bool a0, .ints az] - rround (inN (ival [.bool a0, .ints az]) (val bz).toNat b2'.toNat) (inD (ival [.bool a0, .ints az]) (val bz).toNat b2'.toNat) mode), restR (inN (ival [.bool a0, .ints az]) (val bz).toNat b2'.toNat) (inD (ival [.bool a0, .ints az]) (val bz).toNat b2'.toNat) mode)
    else (false, zeroMoney, zeroMoney, rat0) := by
    simp only [taxInT, hm, ht0, Bool.true_and, Bool.and_self]
  obtain ⟨m, t, rfl, rfl, rfl, ht30, em, et, hm9⟩ := taxOk_nn ht0
  rw [em, et] at hcomp
  have henc := (intOk_enc (moneyOk_int hm)).1
  have hgr : Reps w [.string cur, .bool a0, .slice ap an ac] (.str cur :: enc (ival [.bool a0, .ints az])) := by rw [← henc]; exact hr
  have hm' : moneyOk (.str cur :: enc (ival [.bool a0, .ints az])) = true := by rw [← henc]; exact hm
  generalize hgz : taxInT [.str cur, .bool a0, .ints az] [.bool false, .ints (digs m), .int (t : Int)] mode = TT at hcomp exit ⊢
  clear zero
  generalize ival [.bool a0, .ints az] = N at hgr hm' hcomp
  have hl4 := money_len hm'
  obtain ⟨⟨k1, k2⟩, ⟨k3, k4, k5, k6⟩, k7, k8, k9, k10, k11⟩ := in_facts hl4 (one_len hm9) ht30
  unfold impl_TaxIn_j0
  refine Ret.at (impl_IntOf_c (n := 1) (by omega) (by omega)) ?_
  rintro v w7 ⟨vs7, f7, hv, ho7, _, y7⟩
  subst hv
  obtain ⟨s0, sp, sn, sc, sz, rfl, _, _⟩ := open_Signed ho7.reps (enc_code _)
  refine ⟨_, _, _, _, rfl, ?_⟩
  have one1 : (digs (1 : Int).natAbs).length ≤ 1 := one_len1
  refine Ret.at (impl_RatInt_n ho7.reps (by omega)) ?_
  rintro v w8 ⟨vs8, f8, hv, ho8, _, y8⟩
  subst hv
  rw [redR_int (z := 1) (by omega)] at ho8
  obtain ⟨i0, ip, in_, ic, iz, ip2, in2, ic2, iz2, rfl, _, _, _⟩ := open_Rat ho8.reps (rmk_code _ _)
  refine ⟨_, _, _, _, _, _, _, _, rfl, ?_⟩
  intro r5 w9 hn9
  have e9 := hn9.r_eq; have z9 := hn9.size
  obtain ⟨w10, st10, b5, y10⟩ := hn9.fill (P := P) (t := T_impl_Rat) ho8.reps.cells1 (by kernel_rfl) rfl
  have D := Ext.drew w10
  have Y := ((y7.trans y8).trans y10).trans D
  have X10 := X6.trans Y
  have lY := Y.le
  refine ⟨w10, st10, _, _, _, _, _, _, _, fun W hW => ((b5.ext D).ext hW).loadA0 (by kernel_rfl), _, _, _, _, _, fun W hW => ((q1.ext Y).ext hW).loadA0 (by kernel_rfl), ?_⟩
  intro ss w11 F1
  have S1 := (FlSt.start (o := .cells ⟨[.bool false, .slice none 0 0, .slice none 0 0]⟩ T_impl_Rat (0, 0)) w10.drew).step F1
  have hdr : Reps w11 [.bool false, .slice bp bn bc, .int .i64 (t : Int)] (dnn m (t : Int)) := gr.ext (X10.trans S1.1)
  refine Ret.at (impl_DecRat_n hdr (Nat.le_trans (one_len hm9) (by decide)) ht30) ?_
  rintro v w12 ⟨vs12, f12, hv, ho12, _, y12⟩
  subst hv
  rw [k1] at ho12
  obtain ⟨u0, up, un, uc, uz, up2, un2, uc2, uz2, rfl, _, _, _⟩ := open_Rat ho12.reps (rmk_code _ _)
  refine ⟨_, _, _, _, _, _, _, rfl, y12, ?_⟩
  intro ss1 w13 F2
  have S2 := (S1.ext y12).step F2
  refine Ret.at (impl_RatAdd_n (ho8.reps.ext ((y10.trans D).trans S2.1)) (ho12.reps.ext F2.ext) (rmk_int_ok (by omega)) k2) ?_
  rintro v w14 ⟨vs14, f14, hv, ho14, _, y14⟩
  subst hv
  rw [k4] at ho14
  rw [k3]
  obtain ⟨g0, gp, gn, gc', gz, gp2, gn2, gc2, gz2, rfl, _, _, _⟩ := open_Rat ho14.reps (rmk_code _ _)
  refine ⟨_, _, _, _, _, _, _, _, rfl, ?_⟩
  intro ss2 w15 r6 F3 G3
  have S3 := (S2.ext y14).step F3
  obtain ⟨hr6, hbk⟩ := S3.get G3
  have B6 : Blk w15 r6 T_impl_Rat [.bool false, .slice none 0 0, .slice none 0 0] := hbk
  obtain ⟨w16, st16, b6, ch16, z16⟩ := B6.storeA0 (P := P) (t := T_impl_Rat) (xs := [.bool g0, .slice gp gn gc', .slice gp2 gn2 gc2]) (by kernel_rfl) rfl (by simp [Value.oneCell'])
  have hni := Owns.notin B6 (by decide) (ho14.ext F3.ext)
  have ho16 := (ho14.ext F3.ext).chg ch16 (fun k hk hm' => hni (by simp at hm'; rwa [← hm']))
  have Z : Ext w10.drew w16 := S3.1.chg ch16 (by simp; exact hr6)
  have D2 := Ext.drew w16
  have X16 := X10.trans (Z.trans D2)
  have lZ := (Z.trans D2).le
  have YZ := Y.trans (Z.trans D2)
  refine ⟨w16, st16, _, _, _, _, _, fun W hW => ((q0.ext YZ).ext hW).loadA0 (by kernel_rfl), ?_⟩
  intro ss3 w17 F4
  have S4 := (FlSt.start (o := .cells ⟨[.bool false, .slice none 0 0, .slice none 0 0]⟩ T_impl_Rat (0, 0)) w16.drew).step F4
  refine Ret.at (impl_MoneyRat_n (hgr.ext (X16.trans S4.1)) hm' (ht.ext (X16.trans S4.1))) ?_
  rintro v w18 ⟨vs18, f18, hv, ho18, _, y18⟩
  subst hv
  obtain ⟨v0, vp, vn, vc, vz, vp2, vn2, vc2, vz2, rfl, _, _, _⟩ := open_Rat ho18.reps (rmk_code _ _)
  refine ⟨_, _, _, _, _, _, _, rfl, y18, _, _, _, _, _, _, _, fun W hW => ((b6.ext D2).ext hW).loadA0 (by kernel_rfl), ?_⟩
  intro ss4 w19 F5
  have S5 := (S4.ext y18).step F5
  refine Ret.at (impl_RatDiv_n (ho18.reps.ext F5.ext) (ho16.reps.ext (D2.trans S5.1)) (rmk_int_ok (by omega)) k5 k6) ?_
  rintro v w20 ⟨vs20, f20, hv, ho20, _, y20⟩
  subst hv
  rw [k8] at ho20
  rw [k7]
  obtain ⟨x0, xp, xn, xc, xz, xp2, xn2, xc2, xz2, rfl, _, _, _⟩ := open_Rat ho20.reps (rmk_code _ _)
  refine ⟨_, _, _, _, _, _, _, _, rfl, ?_⟩
  intro ss5 w21 r7 F6 G6
  have S6 := (S5.ext y20).step F6
  obtain ⟨hr7, hbk7⟩ := S6.get G6
  have B7 : Blk w21 r7 T_impl_Rat [.bool false, .slice none 0 0, .slice none 0 0] := hbk7
  obtain ⟨w22, st22, b7, ch22, z22⟩ := B7.storeA0 (P := P) (t := T_impl_Rat) (xs := [.bool x0, .slice xp xn xc, .slice xp2 xn2 xc2]) (by kernel_rfl) rfl (by simp [Value.oneCell'])
  have hni7 := Owns.notin B7 (by decide) (ho20.ext F6.ext)
  have ho22 := (ho20.ext F6.ext).chg ch22 (fun k hk hm' => hni7 (by simp at hm'; rwa [← hm']))
  have Z2 : Ext w16.drew w22 := S6.1.chg ch22 (by simp; exact hr7)
  have X22 := X16.trans Z2
  have lZ2 := Z2.le
  have Y22 := YZ.trans Z2
  refine ⟨w22, st22, _, (q0.ext Y22).loadAt 0 rfl (by kernel_rfl) rfl, _, _, _, _, _, _, _, b7.loadA0 (by kernel_rfl), ?_⟩
  refine Ret.at (impl_RatMoney_n (m := mode) cur ho22.reps k9 k10 k11 (ht.ext X22)) ?_
  generalize inN N m t = NN at *
  generalize inD N m t = DD at *
  rintro v w23 ⟨vs23, f23, vsr, fr, hv, ho23, nd23, hor, ndr, dis, y23⟩
  subst hv
  have l23 := y23.le
  obtain ⟨m0, m1, mp, mn, mc, mz, rfl, hmd, _⟩ := open_Money ho23.reps (rmMoney_code _ _ _ _)
  obtain ⟨j0, jp, jn, jc, jz, jp2, jn2, jc2, jz2, rfl, _, _, _⟩ := open_Rat hor.reps (rmRest_code _ _ _ _)
  refine ⟨_, _, _, _, _, _, _, _, _, _, _, _, _, rfl, ?_⟩
  intro r8 w24 hn24 r9 w25 hn25
  have e24 := hn24.r_eq; have e25 := hn25.r_eq; have z24 := hn24.size; have z25 := hn25.size
  obtain ⟨w26, st26, b8, ch26, z26⟩ := (hn24.blk.ext hn25.ext).storeA0 (P := P) (t := T_impl_Money) (xs := [.string m0, .bool m1, .slice mp mn mc]) (by kernel_rfl) rfl ho23.reps.cells1
  obtain ⟨w27, st27, b9, ch27, z27⟩ := (hn25.blk.chg ch26 (by simp; omega)).storeA0 (P := P) (t := T_impl_Rat) (xs := [.bool j0, .slice jp jn jc, .slice jp2 jn2 jc2]) (by kernel_rfl) rfl hor.reps.cells1
  have Y27 : Ext w23 w27 := ((hn24.ext.trans hn25.ext).chg ch26 (by simp; omega)).chg ch27 (by simp; omega)
  have b8 := b8.chg ch27 (by simp; omega)
  have YA := Y22.trans (y23.trans Y27)
  have X27 := X6.trans YA
  have q0 := q0.ext YA
  have on := ho23.ext Y27; have orr := hor.ext Y27
  refine ⟨w26, st26, w27, st27, _, _, _, _, _, q0.loadA0 (by kernel_rfl), _, _, _, _, _, b8.loadA0 (by kernel_rfl), ?_⟩
  have lYA := YA.le
  rcases hrm : rmOk cur NN DD mode with _ | _
  · rw [hmd] at on
    refine Ret.at (impl_MoneySub_n (hr.ext X27) on.reps (ht.ext X27)) ?_
    rintro v w28 ⟨vs28, f28, hv, o28, nd28, y28⟩
    subst hv
    obtain ⟨t0, t1, tp, tn, tc, tz, rfl, _, _⟩ := open_Money o28.reps (mres_code _ _ _)
    refine ⟨_, _, _, _, _, _, rfl, ?_⟩
    intro r10 w29 hn29
    obtain ⟨w30, st30, b10, y30⟩ := hn29.fill (P := P) (t := T_impl_Money) o28.reps.cells1 (by kernel_rfl) rfl
    exact ⟨w30, st30, ifN (fun hh => absurd hh (by simp)) (fun _ => ifN (fun hh => absurd hh (by simp)) (fun _ => ifN (fun _ => ifT (exit _ (Y6.trans (YA.trans (y28.trans y30))) (by rw [hcomp, hrm, Bool.false_and]; rfl))) (fun hh => absurd hh (by simp))))⟩
  · have em : rmMoney cur NN DD mode = .str cur :: enc (rround NN DD mode) := by unfold rmMoney; rw [hrm]; rfl
    have er : rmRest cur NN DD mode = restR NN DD mode := by unfold rmRest; rw [hrm]; rfl
    rw [em] at on; rw [er] at orr
    have hmm : moneyOk (.str cur :: enc (rround NN DD mode)) = true := by
      simp only [rmOk, Bool.and_eq_true] at hrm; exact hrm.2
    rw [hrm] at hcomp
    clear hmd
    generalize rround NN DD mode = Q at *
    generalize restR NN DD mode = RR at *
    refine Ret.at (impl_MoneySub_e (hgr.ext X27) on.reps hm' hmm (ht.ext X27)) ?_
    rintro v w28 ⟨vs28, f28, hv, o28, nd28, y28⟩
    subst hv
    have l28 := y28.le
    obtain ⟨t0, t1, tp, tn, tc, tz, rfl, _, _⟩ := open_Money o28.reps (moneyMk_code _ _)
    refine ⟨_, _, _, _, _, _, rfl, ?_⟩
    intro r10 w29 hn29
    have e29 := hn29.r_eq; have z29 := hn29.size
    obtain ⟨w30, st30, b10, y30⟩ := hn29.fill (P := P) (t := T_impl_Money) o28.reps.cells1 (by kernel_rfl) rfl
    have l30 := y30.le
    have y28' := y28.trans y30
    have lb8 := b8.lt; have lb9 := b9.lt; have lb10 := b10.lt
    refine ⟨w30, st30, ifN (fun hh => absurd hh (by simp)) (fun _ => ifN (fun hh => absurd hh (by simp)) (fun _ => ifN (fun hh => absurd hh (by simp)) (fun _ => ifN (fun hno => exit _ (Y6.trans (YA.trans y28')) (by rw [hcomp, hno]; rfl)) (fun hyes => ?_))))⟩
    have hmk : moneyMk cur (N - Q) = .str cur :: enc (N - Q) := by rw [moneyMk, if_pos hyes]
    rw [hmk] at o28
    have D3 := Ext.drew w30
    have y3 := y30.trans D3
    have y3' := y28'.trans D3
    have lD3 := D3.le
    have a8 := b8.ext y3'; have a9 := b9.ext y3'; have a10 := b10.ext D3
    have YB := Y6.trans (YA.trans y3')
    have lY6 := Y6.le
    obtain ⟨W1, W2, W3, c1, c2, c3, c4, c5, c6, c7, c8, c9, c10, c11, c12⟩ := three_end (t1 := T_impl_Money) (t2 := T_impl_Money) (t3 := T_impl_Rat) (q2.ext YB) (q3.ext YB) (q4.ext YB) (X.trans YB) ((on.ext y3').mono (Nat.le_refl _)) ((o28.ext y3).mono (show w22.heap.size ≤ _ by have := y23.le; have := Y27.le; omega)) (orr.ext y3') (by kernel_rfl) rfl (by kernel_rfl) rfl (by kernel_rfl) rfl ⟨by omega, by omega, by omega, by omega⟩
    rw [hcomp]
    simp only [hyes, Bool.and_self, if_true]
    refine ⟨[r2, r3, r4], _, _, _, _, _, fun W hW => (a8.chg (show Chg [r2, r3, r4] w30.drew W from hW) (by simp; omega)).loadA0 (by kernel_rfl), _, _, _, _, _, fun W hW => (a10.chg (show Chg [r2, r3, r4] w30.drew W from hW) (by simp; omega)).loadA0 (by kernel_rfl), _, _, _, _, _, _, _, fun W hW => (a9.chg (show Chg [r2, r3, r4] w30.drew W from hW) (by simp; omega)).loadA0 (by kernel_rfl), W1, c1, c2, W2, c3, c4, W3, c5, _, _, _, _, _, c6, _, _, _, _, _, c7, _, _, _, _, _, _, _, c8, _, f23, _, f28, _, fr, rfl, c9, nd23, c10, nd28, c11, ndr, ?_, dis, ?_, c12⟩
    · intro k hk hk2
      have h1 := (ho23.lt k hk).2; have h2 := (o28.lt k hk2).1; have := Y27.le; omega
    · intro k hk hk2
      have h1 := (hor.lt k hk2).2; have h2 := (o28.lt k hk).1; have := Y27.le; omega
theorem spec_TaxIn_o {w : World} {xs ys : List Value} {dx dy : List D0} (h : Reps w xs dx) (g : Reps w ys dy) (hc : dx.map D0.code = [.str, .bool, .ints]) (gc : dy.map D0.code = [.bool, .ints, .int]) (mode : Int) :
    Ret P n_spec_TaxIn [.agg ⟨xs⟩, .agg ⟨ys⟩, .int .i64 mode] w fun v w' => ∃ vs0 f0 vs1 f1 vs2 f2, v = .tuple #[.agg ⟨vs0⟩, .agg ⟨vs1⟩, .agg ⟨vs2⟩, .bool (taxInT dx dy mode).1] ∧ Owns w' w.heap.size vs0 (taxInT dx dy mode).2.1 f0 ∧ f0.Nodup ∧ Owns w' w.heap.size vs1 (taxInT dx dy mode).2.2.1 f1 ∧ f1.Nodup ∧ Owns w' w.heap.size vs2 (taxInT dx dy mode).2.2.2 f2 ∧ f2.Nodup ∧ (∀ k ∈ f0, k ∉ f1) ∧ (∀ k ∈ f0, k ∉ f2) ∧ (∀ k ∈ f1, k ∉ f2) ∧ Ext w w' := by
  have hr := h; have gr := g
  obtain ⟨cur, a0, ap, an, ac, az, rfl, rfl, ha⟩ := open_Money h hc
  obtain ⟨b0', bp, bn, bc, bz, b2', rfl, rfl, hb⟩ := open_Dec g gc
  refine spec_TaxIn_ret ?_
  unfold spec_TaxIn
  intro r w1 hn1 r1 w2 hn2 r2 w3 hn3 r3 w4 hn4 r4 w5 hn5
  have e1 := hn1.r_eq; have e2 := hn2.r_eq; have e3 := hn3.r_eq; have e4 := hn4.r_eq; have e5 := hn5.r_eq; have z1 := hn1.size; have z2 := hn2.size; have z3 := hn3.size; have z4 := hn4.size; have z5 := hn5.size
  have X := (((hn1.ext.trans hn2.ext).trans hn3.ext).trans hn4.ext).trans hn5.ext
  have q0 := (((hn1.blk.ext hn2.ext).ext hn3.ext).ext hn4.ext).ext hn5.ext; have q1 := ((hn2.blk.ext hn3.ext).ext hn4.ext).ext hn5.ext; have q2 := (hn3.blk.ext hn4.ext).ext hn5.ext; have q3 := hn4.blk.ext hn5.ext; have q4 := hn5.blk
  have zero : ∀ W, Ext w5 W → taxInT [.str cur, .bool a0, .ints az] [.bool b0', .ints bz, .int b2'] mode = (false, zeroMoney, zeroMoney, rat0) → ∃ W1, Stores P T_impl_Money ⟨r2, 0, none⟩ (.agg ⟨[.string ByteArray.empty, .bool false, .slice none 0 0]⟩) W W1 ∧ ∃ W2, Stores P T_impl_Money ⟨r3, 0, none⟩ (.agg ⟨[.string ByteArray.empty, .bool false, .slice none 0 0]⟩) W1 W2 ∧ ∃ W3, Stores P T_impl_Rat ⟨r4, 0, none⟩ (.agg ⟨[.bool false, .slice none 0 0, .slice none 0 0]⟩) W2 W3 ∧ Loads P T_impl_Money ⟨r2, 0, none⟩ (.agg ⟨[.string ByteArray.empty, .bool false, .slice none 0 0]⟩) W3 ∧ Loads P T_impl_Money ⟨r3, 0, none⟩ (.agg ⟨[.string ByteArray.empty, .bool false, .slice none 0 0]⟩) W3 ∧ Loads P T_impl_Rat ⟨r4, 0, none⟩ (.agg ⟨[.bool false, .slice none 0 0, .slice none 0 0]⟩) W3 ∧ (fun (v : Value) (w' : World) => ∃ vs0 f0 vs1 f1 vs2 f2, v = .tuple #[.agg ⟨vs0⟩, .agg ⟨vs1⟩, .agg ⟨vs2⟩, .bool (taxInT [.str cur, .bool a0, .ints az] [.bool b0', .ints bz, .int b2'] mode).1] ∧ Owns w' w.heap.size vs0 (taxInT [.str cur, .bool a0, .ints az] [.bool b0', .ints bz, .int b2'] mode).2.1 f0 ∧ f0.Nodup ∧ Owns w' w.heap.size vs1 (taxInT [.str cur, .bool a0, .ints az] [.bool b0', .ints bz, .int b2'] mode).2.2.1 f1 ∧ f1.Nodup ∧ Owns w' w.heap.size vs2 (taxInT [.str cur, .bool a0, .ints az] [.bool b0', .ints bz, .int b2'] mode).2.2.2 f2 ∧ f2.Nodup ∧ (∀ k ∈ f0, k ∉ f1) ∧ (∀ k ∈ f0, k ∉ f2) ∧ (∀ k ∈ f1, k ∉ f2) ∧ Ext w w') (.tuple #[.agg ⟨[.string ByteArray.empty, .bool false, .slice none 0 0]⟩, .agg ⟨[.string ByteArray.empty, .bool false, .slice none 0 0]⟩, .agg ⟨[.bool false, .slice none 0 0, .slice none 0 0]⟩, .bool false]) W3 := by
    intro W hW hno
    obtain ⟨W1, W2, W3, a1, _, a2, _, a3, a4, a5, a6, a7, a8, a9, a10⟩ := three_end (t1 := T_impl_Money) (t2 := T_impl_Money) (t3 := T_impl_Rat) (q2.ext hW) (q3.ext hW) (q4.ext hW) (X.trans hW) (own_money0 W (r4 + 1)) (own_money0 W (r4 + 1)) (own_rat0 W (r4 + 1)) (by kernel_rfl) rfl (by kernel_rfl) rfl (by kernel_rfl) rfl ⟨by omega, by omega, by omega, by omega⟩
    rw [hno]
    exact ⟨W1, a1, W2, a2, W3, a3, a4, a5, a6, _, [], _, [], _, [], rfl, a7, List.nodup_nil, a8, List.nodup_nil, a9, List.nodup_nil, fun k hk => by simp at hk, fun k hk => by simp at hk, fun k hk => by simp at hk, a10⟩
  have exit : ∀ W, Ext w5 W → taxInT [.str cur, .bool a0, .ints az] [.bool b0', .ints bz, .int b2'] mode = (false, zeroMoney, zeroMoney, rat0) → ∃ W1, Stores P T_impl_Money ⟨r2, 0, none⟩ (.agg ⟨[.string ByteArray.empty, .bool false, .slice none 0 0]⟩) W W1 ∧ ∃ W2, Stores P T_impl_Money ⟨r3, 0, none⟩ (.agg ⟨[.string ByteArray.empty, .bool false, .slice none 0 0]⟩) W1 W2 ∧ ∃ W3, Stores P T_impl_Rat ⟨r4, 0, none⟩ (.agg ⟨[.bool false, .slice none 0 0, .slice none 0 0]⟩) W2 W3 ∧ ∃ (m1s : ByteArray) (m1b : Bool) (m1p : Option Addr) (m1n m1c : Nat), Loads P T_impl_Money ⟨r2, 0, none⟩ (.agg #[.string m1s, .bool m1b, .slice m1p m1n m1c]) W3 ∧ ∃ (m2s : ByteArray) (m2b : Bool) (m2p : Option Addr) (m2n m2c : Nat), Loads P T_impl_Money ⟨r3, 0, none⟩ (.agg #[.string m2s, .bool m2b, .slice m2p m2n m2c]) W3 ∧ ∃ (qb : Bool) (qp : Option Addr) (qn qc : Nat) (qp2 : Option Addr) (qn2 qc2 : Nat), Loads P T_impl_Rat ⟨r4, 0, none⟩ (.agg #[.bool qb, .slice qp qn qc, .slice qp2 qn2 qc2]) W3 ∧ (fun (v : Value) (w' : World) => ∃ vs0 f0 vs1 f1 vs2 f2, v = .tuple #[.agg ⟨vs0⟩, .agg ⟨vs1⟩, .agg ⟨vs2⟩, .bool (taxInT [.str cur, .bool a0, .ints az] [.bool b0', .ints bz, .int b2'] mode).1] ∧ Owns w' w.heap.size vs0 (taxInT [.str cur, .bool a0, .ints az] [.bool b0', .ints bz, .int b2'] mode).2.1 f0 ∧ f0.Nodup ∧ Owns w' w.heap.size vs1 (taxInT [.str cur, .bool a0, .ints az] [.bool b0', .ints bz, .int b2'] mode).2.2.1 f1 ∧ f1.Nodup ∧ Owns w' w.heap.size vs2 (taxInT [.str cur, .bool a0, .ints az] [.bool b0', .ints bz, .int b2'] mode).2.2.2 f2 ∧ f2.Nodup ∧ (∀ k ∈ f0, k ∉ f1) ∧ (∀ k ∈ f0, k ∉ f2) ∧ (∀ k ∈ f1, k ∉ f2) ∧ Ext w w') (.tuple #[.agg #[.string m1s, .bool m1b, .slice m1p m1n m1c], .agg #[.string m2s, .bool m2b, .slice m2p m2n m2c], .agg #[.bool qb, .slice qp qn qc, .slice qp2 qn2 qc2], .bool false]) W3 := by
    intro W hW hno
    obtain ⟨W1, a1, W2, a2, W3, a3, a4, a5, a6, a7⟩ := zero W hW hno
    exact ⟨W1, a1, W2, a2, W3, a3, _, _, _, _, _, a4, _, _, _, _, _, a5, _, _, _, _, _, _, _, a6, a7⟩
  refine ⟨_, _, _, _, _, q0.loadA0 (by kernel_rfl), ?_⟩
  refine Ret.at (spec_MoneyOk_c (hr.ext X) rfl) ?_
  rintro v w51 ⟨hv, y51⟩
  subst hv
  refine ⟨_, rfl, ifN (fun hno => ifT (exit _ y51 (by simp only [taxInT, hno, Bool.false_and, Bool.false_eq_true, if_false]))) (fun hm => ⟨_, _, _, _, _, (q1.ext y51).loadA0 (by kernel_rfl), ?_⟩)⟩
  refine Ret.at (spec_TaxRateOk_c (gr.ext (X.trans y51)) rfl) ?_
  rintro v w6 ⟨hv, y6⟩
  subst hv
  have Y6 := y51.trans y6
  refine ⟨_, rfl, ifN (fun hno => exit _ Y6 (by simp only [taxInT, hno, Bool.and_false, Bool.false_and, Bool.false_eq_true, if_false])) (fun ht0 => ?_)⟩
  have X6 := X.trans Y6
  have q0 := q0.ext Y6; have q1 := q1.ext Y6
  have hcomp : taxInT [.str cur, .bool a0, .ints az] [.bool b0', .ints bz, .int b2'] mode = if rmOk cur (inN (ival [.bool a0, .ints az]) (val bz).toNat b2'.toNat) (inD (ival [.bool a0, .ints az]) (val bz).toNat b2'.toNat) mode && moneyOk (.str cur :: enc (ival [.bool a0, .ints az] - rround (inN (ival [.bool a0, .ints az]) (val bz).toNat b2'.toNat) (inD (ival [.bool a0, .ints az]) (val bz).toNat b2'.toNat) mode)) then
      (true, .str cur :: enc (rround (inN (ival [.bool a0, .ints az]) (val bz).toNat b2'.toNat) (inD (ival [.bool a0, .ints az]) (val bz).toNat b2'.toNat) mode), .str cur :: enc (ival [.bool a0, .ints az] - rround (inN (ival [.bool a0, .ints az]) (val bz).toNat b2'.toNat) (inD (ival [.bool a0, .ints az]) (val bz).toNat b2'.toNat) mode), restR (inN (ival [.bool a0, .ints az]) (val bz).toNat b2'.toNat) (inD (ival [.bool a0, .ints az]) (val bz).toNat b2'.toNat) mode)
    else (false, zeroMoney, zeroMoney, rat0) := by
    simp only [taxInT, hm, ht0, Bool.true_and, Bool.and_self]
  obtain ⟨m, t, rfl, rfl, rfl, ht30, em, et, hm9⟩ := taxOk_nn ht0
  rw [em, et] at hcomp
  have henc := (intOk_enc (moneyOk_int hm)).1
  have hgr : Reps w [.string cur, .bool a0, .slice ap an ac] (.str cur :: enc (ival [.bool a0, .ints az])) := by rw [← henc]; exact hr
  have hm' : moneyOk (.str cur :: enc (ival [.bool a0, .ints az])) = true := by rw [← henc]; exact hm
  generalize hgz : taxInT [.str cur, .bool a0, .ints az] [.bool false, .ints (digs m), .int (t : Int)] mode = TT at hcomp exit ⊢
  clear zero
  generalize ival [.bool a0, .ints az] = N at hgr hm' hcomp
  have hl4 := money_len hm'
  obtain ⟨⟨k1, k2⟩, ⟨k3, k4, k5, k6⟩, k7, k8, k9, k10, k11⟩ := in_facts hl4 (one_len hm9) ht30
  unfold spec_TaxIn_j0
  refine Ret.at (spec_IntOf_c (n := 1) (by omega) (by omega)) ?_
  rintro v w7 ⟨vs7, f7, hv, ho7, _, y7⟩
  subst hv
  obtain ⟨s0, sp, sn, sc, sz, rfl, _, _⟩ := open_Signed ho7.reps (enc_code _)
  refine ⟨_, _, _, _, rfl, ?_⟩
  have one1 : (digs (1 : Int).natAbs).length ≤ 1 := one_len1
  refine Ret.at (spec_RatInt_n ho7.reps (by omega)) ?_
  rintro v w8 ⟨vs8, f8, hv, ho8, _, y8⟩
  subst hv
  rw [redR_int (z := 1) (by omega)] at ho8
  obtain ⟨i0, ip, in_, ic, iz, ip2, in2, ic2, iz2, rfl, _, _, _⟩ := open_Rat ho8.reps (rmk_code _ _)
  refine ⟨_, _, _, _, _, _, _, _, rfl, ?_⟩
  intro r5 w9 hn9
  have e9 := hn9.r_eq; have z9 := hn9.size
  obtain ⟨w10, st10, b5, y10⟩ := hn9.fill (P := P) (t := T_impl_Rat) ho8.reps.cells1 (by kernel_rfl) rfl
  have D := Ext.drew w10
  have Y := ((y7.trans y8).trans y10).trans D
  have X10 := X6.trans Y
  have lY := Y.le
  refine ⟨w10, st10, _, _, _, _, _, _, _, fun W hW => ((b5.ext D).ext hW).loadA0 (by kernel_rfl), _, _, _, _, _, fun W hW => ((q1.ext Y).ext hW).loadA0 (by kernel_rfl), ?_⟩
  intro ss w11 F1
  have S1 := (FlSt.start (o := .cells ⟨[.bool false, .slice none 0 0, .slice none 0 0]⟩ T_impl_Rat (0, 0)) w10.drew).step F1
  have hdr : Reps w11 [.bool false, .slice bp bn bc, .int .i64 (t : Int)] (dnn m (t : Int)) := gr.ext (X10.trans S1.1)
  refine Ret.at (spec_DecRat_n hdr (Nat.le_trans (one_len hm9) (by decide)) ht30) ?_
  rintro v w12 ⟨vs12, f12, hv, ho12, _, y12⟩
  subst hv
  rw [k1] at ho12
  obtain ⟨u0, up, un, uc, uz, up2, un2, uc2, uz2, rfl, _, _, _⟩ := open_Rat ho12.reps (rmk_code _ _)
  refine ⟨_, _, _, _, _, _, _, rfl, y12, ?_⟩
  intro ss1 w13 F2
  have S2 := (S1.ext y12).step F2
  refine Ret.at (spec_RatAdd_n (ho8.reps.ext ((y10.trans D).trans S2.1)) (ho12.reps.ext F2.ext) (rmk_int_ok (by omega)) k2) ?_
  rintro v w14 ⟨vs14, f14, hv, ho14, _, y14⟩
  subst hv
  rw [k4] at ho14
  rw [k3]
  obtain ⟨g0, gp, gn, gc', gz, gp2, gn2, gc2, gz2, rfl, _, _, _⟩ := open_Rat ho14.reps (rmk_code _ _)
  refine ⟨_, _, _, _, _, _, _, _, rfl, ?_⟩
  intro ss2 w15 r6 F3 G3
  have S3 := (S2.ext y14).step F3
  obtain ⟨hr6, hbk⟩ := S3.get G3
  have B6 : Blk w15 r6 T_impl_Rat [.bool false, .slice none 0 0, .slice none 0 0] := hbk
  obtain ⟨w16, st16, b6, ch16, z16⟩ := B6.storeA0 (P := P) (t := T_impl_Rat) (xs := [.bool g0, .slice gp gn gc', .slice gp2 gn2 gc2]) (by kernel_rfl) rfl (by simp [Value.oneCell'])
  have hni := Owns.notin B6 (by decide) (ho14.ext F3.ext)
  have ho16 := (ho14.ext F3.ext).chg ch16 (fun k hk hm' => hni (by simp at hm'; rwa [← hm']))
  have Z : Ext w10.drew w16 := S3.1.chg ch16 (by simp; exact hr6)
  have D2 := Ext.drew w16
  have X16 := X10.trans (Z.trans D2)
  have lZ := (Z.trans D2).le
  have YZ := Y.trans (Z.trans D2)
  refine ⟨w16, st16, _, _, _, _, _, fun W hW => ((q0.ext YZ).ext hW).loadA0 (by kernel_rfl), ?_⟩
  intro ss3 w17 F4
  have S4 := (FlSt.start (o := .cells ⟨[.bool false, .slice none 0 0, .slice none 0 0]⟩ T_impl_Rat (0, 0)) w16.drew).step F4
  refine Ret.at (spec_MoneyRat_n (hgr.ext (X16.trans S4.1)) hm' ) ?_
  rintro v w18 ⟨vs18, f18, hv, ho18, _, y18⟩
  subst hv
  obtain ⟨v0, vp, vn, vc, vz, vp2, vn2, vc2, vz2, rfl, _, _, _⟩ := open_Rat ho18.reps (rmk_code _ _)
  refine ⟨_, _, _, _, _, _, _, rfl, y18, _, _, _, _, _, _, _, fun W hW => ((b6.ext D2).ext hW).loadA0 (by kernel_rfl), ?_⟩
  intro ss4 w19 F5
  have S5 := (S4.ext y18).step F5
  refine Ret.at (spec_RatDiv_n (ho18.reps.ext F5.ext) (ho16.reps.ext (D2.trans S5.1)) (rmk_int_ok (by omega)) k5 k6) ?_
  rintro v w20 ⟨vs20, f20, hv, ho20, _, y20⟩
  subst hv
  rw [k8] at ho20
  rw [k7]
  obtain ⟨x0, xp, xn, xc, xz, xp2, xn2, xc2, xz2, rfl, _, _, _⟩ := open_Rat ho20.reps (rmk_code _ _)
  refine ⟨_, _, _, _, _, _, _, _, rfl, ?_⟩
  intro ss5 w21 r7 F6 G6
  have S6 := (S5.ext y20).step F6
  obtain ⟨hr7, hbk7⟩ := S6.get G6
  have B7 : Blk w21 r7 T_impl_Rat [.bool false, .slice none 0 0, .slice none 0 0] := hbk7
  obtain ⟨w22, st22, b7, ch22, z22⟩ := B7.storeA0 (P := P) (t := T_impl_Rat) (xs := [.bool x0, .slice xp xn xc, .slice xp2 xn2 xc2]) (by kernel_rfl) rfl (by simp [Value.oneCell'])
  have hni7 := Owns.notin B7 (by decide) (ho20.ext F6.ext)
  have ho22 := (ho20.ext F6.ext).chg ch22 (fun k hk hm' => hni7 (by simp at hm'; rwa [← hm']))
  have Z2 : Ext w16.drew w22 := S6.1.chg ch22 (by simp; exact hr7)
  have X22 := X16.trans Z2
  have lZ2 := Z2.le
  have Y22 := YZ.trans Z2
  refine ⟨w22, st22, _, (q0.ext Y22).loadAt 0 rfl (by kernel_rfl) rfl, _, _, _, _, _, _, _, b7.loadA0 (by kernel_rfl), ?_⟩
  refine Ret.at (spec_RatMoney_n (m := mode) cur ho22.reps k9 k10 k11) ?_
  generalize inN N m t = NN at *
  generalize inD N m t = DD at *
  rintro v w23 ⟨vs23, f23, vsr, fr, hv, ho23, nd23, hor, ndr, dis, y23⟩
  subst hv
  have l23 := y23.le
  obtain ⟨m0, m1, mp, mn, mc, mz, rfl, hmd, _⟩ := open_Money ho23.reps (rmMoney_code _ _ _ _)
  obtain ⟨j0, jp, jn, jc, jz, jp2, jn2, jc2, jz2, rfl, _, _, _⟩ := open_Rat hor.reps (rmRest_code _ _ _ _)
  refine ⟨_, _, _, _, _, _, _, _, _, _, _, _, _, rfl, ?_⟩
  intro r8 w24 hn24 r9 w25 hn25
  have e24 := hn24.r_eq; have e25 := hn25.r_eq; have z24 := hn24.size; have z25 := hn25.size
  obtain ⟨w26, st26, b8, ch26, z26⟩ := (hn24.blk.ext hn25.ext).storeA0 (P := P) (t := T_impl_Money) (xs := [.string m0, .bool m1, .slice mp mn mc]) (by kernel_rfl) rfl ho23.reps.cells1
  obtain ⟨w27, st27, b9, ch27, z27⟩ := (hn25.blk.chg ch26 (by simp; omega)).storeA0 (P := P) (t := T_impl_Rat) (xs := [.bool j0, .slice jp jn jc, .slice jp2 jn2 jc2]) (by kernel_rfl) rfl hor.reps.cells1
  have Y27 : Ext w23 w27 := ((hn24.ext.trans hn25.ext).chg ch26 (by simp; omega)).chg ch27 (by simp; omega)
  have b8 := b8.chg ch27 (by simp; omega)
  have YA := Y22.trans (y23.trans Y27)
  have X27 := X6.trans YA
  have q0 := q0.ext YA
  have on := ho23.ext Y27; have orr := hor.ext Y27
  refine ⟨w26, st26, w27, st27, _, _, _, _, _, q0.loadA0 (by kernel_rfl), _, _, _, _, _, b8.loadA0 (by kernel_rfl), ?_⟩
  have lYA := YA.le
  rcases hrm : rmOk cur NN DD mode with _ | _
  · rw [hmd] at on
    refine Ret.at (spec_MoneySub_n (hr.ext X27) on.reps) ?_
    rintro v w28 ⟨vs28, f28, hv, o28, nd28, y28⟩
    subst hv
    obtain ⟨t0, t1, tp, tn, tc, tz, rfl, _, _⟩ := open_Money o28.reps (mres_code _ _ _)
    refine ⟨_, _, _, _, _, _, rfl, ?_⟩
    intro r10 w29 hn29
    obtain ⟨w30, st30, b10, y30⟩ := hn29.fill (P := P) (t := T_impl_Money) o28.reps.cells1 (by kernel_rfl) rfl
    exact ⟨w30, st30, ifN (fun _ => ifT (exit _ (Y6.trans (YA.trans (y28.trans y30))) (by rw [hcomp, hrm, Bool.false_and]; rfl))) (fun hh => absurd hh (by simp))⟩
  · have em : rmMoney cur NN DD mode = .str cur :: enc (rround NN DD mode) := by unfold rmMoney; rw [hrm]; rfl
    have er : rmRest cur NN DD mode = restR NN DD mode := by unfold rmRest; rw [hrm]; rfl
    rw [em] at on; rw [er] at orr
    have hmm : moneyOk (.str cur :: enc (rround NN DD mode)) = true := by
      simp only [rmOk, Bool.and_eq_true] at hrm; exact hrm.2
    rw [hrm] at hcomp
    clear hmd
    generalize rround NN DD mode = Q at *
    generalize restR NN DD mode = RR at *
    refine Ret.at (spec_MoneySub_e (hgr.ext X27) on.reps hm' hmm) ?_
    rintro v w28 ⟨vs28, f28, hv, o28, nd28, y28⟩
    subst hv
    have l28 := y28.le
    obtain ⟨t0, t1, tp, tn, tc, tz, rfl, _, _⟩ := open_Money o28.reps (moneyMk_code _ _)
    refine ⟨_, _, _, _, _, _, rfl, ?_⟩
    intro r10 w29 hn29
    have e29 := hn29.r_eq; have z29 := hn29.size
    obtain ⟨w30, st30, b10, y30⟩ := hn29.fill (P := P) (t := T_impl_Money) o28.reps.cells1 (by kernel_rfl) rfl
    have l30 := y30.le
    have y28' := y28.trans y30
    have lb8 := b8.lt; have lb9 := b9.lt; have lb10 := b10.lt
    refine ⟨w30, st30, ifN (fun hh => absurd hh (by simp)) (fun _ => ifN (fun hno => exit _ (Y6.trans (YA.trans y28')) (by rw [hcomp, hno]; rfl)) (fun hyes => ?_))⟩
    have hmk : moneyMk cur (N - Q) = .str cur :: enc (N - Q) := by rw [moneyMk, if_pos hyes]
    rw [hmk] at o28
    have D3 := Ext.drew w30
    have y3 := y30.trans D3
    have y3' := y28'.trans D3
    have lD3 := D3.le
    have a8 := b8.ext y3'; have a9 := b9.ext y3'; have a10 := b10.ext D3
    have YB := Y6.trans (YA.trans y3')
    have lY6 := Y6.le
    obtain ⟨W1, W2, W3, c1, c2, c3, c4, c5, c6, c7, c8, c9, c10, c11, c12⟩ := three_end (t1 := T_impl_Money) (t2 := T_impl_Money) (t3 := T_impl_Rat) (q2.ext YB) (q3.ext YB) (q4.ext YB) (X.trans YB) ((on.ext y3').mono (Nat.le_refl _)) ((o28.ext y3).mono (show w22.heap.size ≤ _ by have := y23.le; have := Y27.le; omega)) (orr.ext y3') (by kernel_rfl) rfl (by kernel_rfl) rfl (by kernel_rfl) rfl ⟨by omega, by omega, by omega, by omega⟩
    rw [hcomp]
    simp only [hyes, Bool.and_self, if_true]
    refine ⟨[r2, r3, r4], _, _, _, _, _, fun W hW => (a8.chg (show Chg [r2, r3, r4] w30.drew W from hW) (by simp; omega)).loadA0 (by kernel_rfl), _, _, _, _, _, fun W hW => (a10.chg (show Chg [r2, r3, r4] w30.drew W from hW) (by simp; omega)).loadA0 (by kernel_rfl), _, _, _, _, _, _, _, fun W hW => (a9.chg (show Chg [r2, r3, r4] w30.drew W from hW) (by simp; omega)).loadA0 (by kernel_rfl), W1, c1, c2, W2, c3, c4, W3, c5, _, _, _, _, _, c6, _, _, _, _, _, c7, _, _, _, _, _, _, _, c8, _, f23, _, f28, _, fr, rfl, c9, nd23, c10, nd28, c11, ndr, ?_, dis, ?_, c12⟩
    · intro k hk hk2
      have h1 := (ho23.lt k hk).2; have h2 := (o28.lt k hk2).1; have := Y27.le; omega
    · intro k hk hk2
      have h1 := (hor.lt k hk2).2; have h2 := (o28.lt k hk).1; have := Y27.le; omega
theorem impl_TaxIn_c {w : World} {xs ys : List Value} {dx dy : List D0} (h : Reps w xs dx) (hc : dx.map D0.code = [.str, .bool, .ints]) (g : Reps w ys dy) (gc : dy.map D0.code = [.bool, .ints, .int]) (mode : Int) (ht : Tab w) :
    Ret P n_impl_TaxIn [.agg ⟨xs⟩, .agg ⟨ys⟩, .int .i64 mode] w fun v w' => ∃ vs0 f0 vs1 f1 vs2 f2, v = .tuple #[.agg ⟨vs0⟩, .agg ⟨vs1⟩, .agg ⟨vs2⟩, .bool (taxInT dx dy mode).1] ∧ Owns w' w.heap.size vs0 (taxInT dx dy mode).2.1 f0 ∧ f0.Nodup ∧ ((taxInT dx dy mode).2.1).map D0.code = [.str, .bool, .ints] ∧ tcnts (taxInT dx dy mode).2.1 ≤ 1000000000 ∧ Owns w' w.heap.size vs1 (taxInT dx dy mode).2.2.1 f1 ∧ f1.Nodup ∧ ((taxInT dx dy mode).2.2.1).map D0.code = [.str, .bool, .ints] ∧ tcnts (taxInT dx dy mode).2.2.1 ≤ 1000000000 ∧ Owns w' w.heap.size vs2 (taxInT dx dy mode).2.2.2 f2 ∧ f2.Nodup ∧ ((taxInT dx dy mode).2.2.2).map D0.code = [.bool, .ints, .ints] ∧ tcnts (taxInT dx dy mode).2.2.2 ≤ 1000000000 ∧ (∀ k ∈ f0, k ∉ f1) ∧ (∀ k ∈ f0, k ∉ f2) ∧ (∀ k ∈ f1, k ∉ f2) ∧ Ext w w' :=
  (impl_TaxIn_o h g hc gc mode ht).mono fun v w' ⟨vs0, f0, vs1, f1, vs2, f2, hv, o0, n0, o1, n1, o2, n2, d1, d2, d3, hx⟩ => ⟨vs0, f0, vs1, f1, vs2, f2, hv, o0, n0, (taxInT_facts dx dy mode).1, (taxInT_facts dx dy mode).2.1, o1, n1, (taxInT_facts dx dy mode).2.2.1, (taxInT_facts dx dy mode).2.2.2.1, o2, n2, (taxInT_facts dx dy mode).2.2.2.2.1, (taxInT_facts dx dy mode).2.2.2.2.2, d1, d2, d3, hx⟩
theorem spec_TaxIn_c {w : World} {xs ys : List Value} {dx dy : List D0} (h : Reps w xs dx) (hc : dx.map D0.code = [.str, .bool, .ints]) (g : Reps w ys dy) (gc : dy.map D0.code = [.bool, .ints, .int]) (mode : Int) :
    Ret P n_spec_TaxIn [.agg ⟨xs⟩, .agg ⟨ys⟩, .int .i64 mode] w fun v w' => ∃ vs0 f0 vs1 f1 vs2 f2, v = .tuple #[.agg ⟨vs0⟩, .agg ⟨vs1⟩, .agg ⟨vs2⟩, .bool (taxInT dx dy mode).1] ∧ Owns w' w.heap.size vs0 (taxInT dx dy mode).2.1 f0 ∧ f0.Nodup ∧ ((taxInT dx dy mode).2.1).map D0.code = [.str, .bool, .ints] ∧ tcnts (taxInT dx dy mode).2.1 ≤ 1000000000 ∧ Owns w' w.heap.size vs1 (taxInT dx dy mode).2.2.1 f1 ∧ f1.Nodup ∧ ((taxInT dx dy mode).2.2.1).map D0.code = [.str, .bool, .ints] ∧ tcnts (taxInT dx dy mode).2.2.1 ≤ 1000000000 ∧ Owns w' w.heap.size vs2 (taxInT dx dy mode).2.2.2 f2 ∧ f2.Nodup ∧ ((taxInT dx dy mode).2.2.2).map D0.code = [.bool, .ints, .ints] ∧ tcnts (taxInT dx dy mode).2.2.2 ≤ 1000000000 ∧ (∀ k ∈ f0, k ∉ f1) ∧ (∀ k ∈ f0, k ∉ f2) ∧ (∀ k ∈ f1, k ∉ f2) ∧ Ext w w' :=
  (spec_TaxIn_o h g hc gc mode).mono fun v w' ⟨vs0, f0, vs1, f1, vs2, f2, hv, o0, n0, o1, n1, o2, n2, d1, d2, d3, hx⟩ => ⟨vs0, f0, vs1, f1, vs2, f2, hv, o0, n0, (taxInT_facts dx dy mode).1, (taxInT_facts dx dy mode).2.1, o1, n1, (taxInT_facts dx dy mode).2.2.1, (taxInT_facts dx dy mode).2.2.2.1, o2, n2, (taxInT_facts dx dy mode).2.2.2.2.1, (taxInT_facts dx dy mode).2.2.2.2.2, d1, d2, d3, hx⟩
end Go.Proofs.YtfemmmbkhhemaaaGreatDoor

namespace Go.Proofs.YtfemmmbkhhemaaaGreatDoor.Sx
open Go Go.RowKit
set_option linter.unusedVariables false
set_option linter.unusedSimpArgs false
theorem Fl.trans {os : List Obj} {ss : List (Option Nat)} {w : World} {s1 : List (Option Nat)} {w1 : World} {s2 : List (Option Nat)} {w2 : World} (h : Fl os ss w s1 w1) (g : Fl os s1 w1 s2 w2) : Fl os ss w s2 w2 := by
  induction h with
  | refl => exact g
  | step h1 h2 _ ih => exact .step h1 h2 (ih g)
theorem Fl.old {os : List Obj} {ss : List (Option Nat)} {w : World} {s1 : List (Option Nat)} {w1 : World} (h : Fl os ss w s1 w1) {k r : Nat} (hk : s1[k]? = some (some r)) : ss[k]? = some (some r) ∨ w.heap.size ≤ r := by
  induction h with
  | refl => exact .inl hk
  | step h1 h2 h3 ih =>
    rename_i ss w k' o s' w'
    have hs : (w.alloc o).heap.size = w.heap.size + 1 := by simp
    rcases ih hk with h | h
    · by_cases e : k' = k
      · subst e
        have hl : k' < ss.length := by
          rcases Nat.lt_or_ge k' ss.length with h | h
          · exact h
          · rw [List.getElem?_eq_none h] at h1; cases h1
        rw [List.getElem?_set_self hl] at h
        simp at h
        exact .inr (by omega)
      · rw [List.getElem?_set_ne e] at h
        exact .inl h
    · exact .inr (by omega)
def FlS (os : List Obj) (w0 : World) (ss : List (Option Nat)) (w : World) : Prop :=
  Ext w0 w ∧ (∀ (k r : Nat), ss[k]? = some (some r) → w0.heap.size ≤ r ∧ r < w.heap.size ∧ w.heap[r]? = os[k]?) ∧ (∀ (k l r : Nat), ss[k]? = some (some r) → ss[l]? = some (some r) → k = l)
theorem FlS.ext {os : List Obj} {w0 w w' : World} {ss : List (Option Nat)} (h : FlS os w0 ss w) (y : Ext w w') : FlS os w0 ss w' :=
  ⟨h.1.trans y, fun k r hk => by
    obtain ⟨a, b, c⟩ := h.2.1 k r hk
    exact ⟨a, Nat.lt_of_lt_of_le b y.le, (y.block r b).trans c⟩, h.2.2⟩
theorem FlS.step {os : List Obj} {w0 w w' : World} {ss ss' : List (Option Nat)} (h : FlS os w0 ss w) (f : Fl os ss w ss' w') : FlS os w0 ss' w' := by
  induction f with
  | refl => exact h
  | step h1 h2 h3 ih =>
    rename_i ss w k' o s' w'
    refine ih ?_
    have y : Ext w (w.alloc o) := (Below.refl _ _).alloc (Nat.le_refl _) _
    have hs : (w.alloc o).heap.size = w.heap.size + 1 := by simp
    have hg : (w.alloc o).heap[w.heap.size]? = some o := heap_alloc_new w _
    have hl : k' < ss.length := by
      rcases Nat.lt_or_ge k' ss.length with h | h
      · exact h
      · rw [List.getElem?_eq_none h] at h1; cases h1
    have hx := h.ext y
    have hle := h.1.le
    refine ⟨hx.1, fun k r hk => ?_, fun k l r hk hl' => ?_⟩
    · by_cases e : k' = k
      · subst e
        rw [List.getElem?_set_self hl] at hk
        simp at hk
        subst hk
        exact ⟨hle, by omega, hg.trans h2.symm⟩
      · rw [List.getElem?_set_ne e] at hk
        exact hx.2.1 k r hk
    · by_cases e : k' = k
      · by_cases e2 : k' = l
        · omega
        · subst e
          rw [List.getElem?_set_self hl] at hk
          simp at hk
          subst hk
          rw [List.getElem?_set_ne e2] at hl'
          have := (h.2.1 l _ hl').2.1
          omega
      · rw [List.getElem?_set_ne e] at hk
        by_cases e2 : k' = l
        · subst e2
          rw [List.getElem?_set_self hl] at hl'
          simp at hl'
          subst hl'
          have := (h.2.1 k _ hk).2.1
          omega
        · rw [List.getElem?_set_ne e2] at hl'
          exact h.2.2 k l r hk hl'
theorem FlS.first {os : List Obj} {w0 w : World} {ss0 ss : List (Option Nat)} (f : Fl os ss0 w0 ss w) (h : ss0.all Option.isNone = true) : FlS os w0 ss w := by
  refine FlS.step ⟨Ext.refl _, fun k r hk => ?_, fun k l r hk _ => ?_⟩ f <;>
  · have hm := List.mem_of_getElem? hk
    have := List.all_eq_true.1 h _ hm
    simp at this
theorem FlS.blk {os : List Obj} {w0 w : World} {ss : List (Option Nat)} {k r : Nat} {cs : List Value} {e : TypeId} (h : FlS os w0 ss w) (hk : ss[k]? = some (some r)) (ho : os[k]? = some (.cells ⟨cs⟩ e (0, 0))) : w0.heap.size ≤ r ∧ r < w.heap.size ∧ Blk w r e cs := by
  obtain ⟨a, b, c⟩ := h.2.1 k r hk
  exact ⟨a, b, c.trans ho⟩
theorem FlS.ne {os : List Obj} {w0 w : World} {ss : List (Option Nat)} {k l r s : Nat} (h : FlS os w0 ss w) (hk : ss[k]? = some (some r)) (hl : ss[l]? = some (some s)) (e : k ≠ l) : r ≠ s := fun hh => e (h.2.2 k l r hk (hh ▸ hl))
theorem FlS.apart {os : List Obj} {w0 wc we w' : World} {ss ss' : List (Option Nat)} {k r : Nat} (h : FlS os w0 ss wc) (f : Fl os ss we ss' w') (hk : ss'[k]? = some (some r)) : r < wc.heap.size ∨ we.heap.size ≤ r := by
  rcases f.old hk with a | a
  · exact .inl (h.2.1 k r a).2.1
  · exact .inr a
end Go.Proofs.YtfemmmbkhhemaaaGreatDoor.Sx

namespace Go.Proofs.YtfemmmbkhhemaaaGreatDoor
open Go Go.Proofs.YtfemmmbkhhemaaaGreatDoor.Sx
set_option linter.unusedVariables false
set_option linter.unusedSimpArgs false
set_option maxHeartbeats 4000000
theorem laws_FnExactTaxIn_c {w : World} {vs0 : List Value} {d0 : List D0} (h0 : Reps w vs0 d0) (hc0 : d0.map D0.code = [.str, .bool, .ints]) (hk0 : ∀ x ∈ d0, x.ok) {vs1 : List Value} {d1 : List D0} (h1 : Reps w vs1 d1) (hc1 : d1.map D0.code = [.bool, .ints, .int]) (hk1 : ∀ x ∈ d1, x.ok) (a2 : Int) (ht : Tab w) :
    Ret P n_laws_FnExactTaxIn [.agg ⟨vs0⟩, .agg ⟨vs1⟩, .int .i64 a2] w fun v w' => v = .bool true ∧ Ext w w' := by
  have hr0 := h0
  obtain ⟨u00, u01, u02p, u02n, u02c, u02z, rfl, rfl, u02h⟩ := open_Money h0 hc0
  have hr1 := h1
  obtain ⟨u10, u11p, u11n, u11c, u11z, u12, rfl, rfl, u11h⟩ := open_Dec h1 hc1
  refine laws_FnExactTaxIn_ret ?_
  unfold laws_FnExactTaxIn
  have x : Ext w w := Ext.refl w
  intro r_a0 W1 hn
  have er_a0 := hn.r_eq; have sr_a0 := hn.size
  have y := hn.ext
  replace x := x.trans y
  have ll1 := y.le
  have bk_a0 := hn.blk; clear hn
  intro r_a1 W2 hn
  have er_a1 := hn.r_eq; have sr_a1 := hn.size
  have y := hn.ext
  replace x := x.trans y
  replace bk_a0 := bk_a0.ext y
  have ll2 := y.le
  have bk_a1 := hn.blk; clear hn
  refine ⟨_, _, _, _, _, bk_a0.loadA0 (by kernel_rfl), ?_⟩
  refine Ret.at (laws_szMoney_c (hr0.ext x) rfl hk0 (by omega) (by omega)) ?_
  rintro v W3 ⟨k0, hv, hs0, hm0, y⟩
  subst hv
  replace x := x.trans y
  replace bk_a0 := bk_a0.ext y
  replace bk_a1 := bk_a1.ext y
  have ll3 := y.le
  refine ⟨_, rfl, ifD (fun _ => ⟨rfl, x⟩) (fun hp0 => ?_)⟩
  refine ⟨_, _, _, _, _, bk_a1.loadA0 (by kernel_rfl), ?_⟩
  refine Ret.at (laws_szDec_c (hr1.ext x) rfl hk1 (by omega) (by omega)) ?_
  rintro v W4 ⟨k1, hv, hs1, hm1, y⟩
  subst hv
  replace x := x.trans y
  replace bk_a0 := bk_a0.ext y
  replace bk_a1 := bk_a1.ext y
  have ll4 := y.le
  refine ⟨_, rfl, ifD (fun _ => ⟨rfl, x⟩) (fun hp1 => ?_)⟩
  have hs0 := hs0 (by omega)
  have hs1 := hs1 (by omega)
  simp only [bulks, D0.bulk, List.map_cons, List.map_nil, List.sum_cons, List.sum_nil] at hs0
  simp only [bulks, D0.bulk, List.map_cons, List.map_nil, List.sum_cons, List.sum_nil] at hs1
  have y := Ext.drew W4
  replace x := x.trans y
  replace bk_a0 := bk_a0.ext y
  replace bk_a1 := bk_a1.ext y
  have ll5 := y.le
  have bd0 := bk_a0
  have bd1 := bk_a1
  refine ⟨_, _, _, _, _, fun W' hW => (bd0.ext hW).loadA0 (by kernel_rfl), ?_⟩
  intro ssx W5 F
  have S := FlS.first F rfl
  have y := F.ext
  replace x := x.trans y
  replace bk_a0 := bk_a0.ext y
  replace bk_a1 := bk_a1.ext y
  have ll6 := y.le
  refine Ret.at (laws_toMoney_c (hr0.ext x) rfl (by simp only [bulks, D0.bulk, List.map_cons, List.map_nil, List.sum_cons, List.sum_nil]; omega)) ?_
  rintro v W6 ⟨vs, f_s0, hv, o_s0, nd_s0, y⟩
  subst hv
  obtain ⟨ts00, ts01, ts02p, ts02n, ts02c, ts02z, rfl, hds0, ts02h⟩ := open_Money o_s0.reps rfl
  have lt_o_s0 : ∀ k ∈ f_s0, W5.heap.size ≤ k ∧ k < W6.heap.size := o_s0.lt
  have yy := y
  replace x := x.trans y
  replace bk_a0 := bk_a0.ext y
  replace bk_a1 := bk_a1.ext y
  replace S := S.ext y
  have ll7 := y.le
  refine ⟨_, _, _, _, _, rfl, yy, ?_⟩
  refine ⟨_, _, _, _, _, fun W' hW => (bd1.ext hW).loadA0 (by kernel_rfl), ?_⟩
  intro ssx W7 F
  have S := S.step F
  have y := F.ext
  replace x := x.trans y
  replace bk_a0 := bk_a0.ext y
  replace bk_a1 := bk_a1.ext y
  replace o_s0 := o_s0.ext y
  have ll8 := y.le
  refine Ret.at (laws_toDec_c (hr1.ext x) rfl (by simp only [bulks, D0.bulk, List.map_cons, List.map_nil, List.sum_cons, List.sum_nil]; omega)) ?_
  rintro v W8 ⟨vs, f_s1, hv, o_s1, nd_s1, y⟩
  subst hv
  obtain ⟨ts10, ts11p, ts11n, ts11c, ts11z, ts12, rfl, hds1, ts11h⟩ := open_Dec o_s1.reps rfl
  have lt_o_s1 : ∀ k ∈ f_s1, W7.heap.size ≤ k ∧ k < W8.heap.size := o_s1.lt
  have yy := y
  replace x := x.trans y
  replace bk_a0 := bk_a0.ext y
  replace bk_a1 := bk_a1.ext y
  replace o_s0 := o_s0.ext y
  replace S := S.ext y
  have ll9 := y.le
  refine ⟨_, _, _, _, _, rfl, ?_⟩
  intro ssx W9 F
  have S := S.step F
  have y := F.ext
  replace x := x.trans y
  replace bk_a0 := bk_a0.ext y
  replace bk_a1 := bk_a1.ext y
  replace o_s0 := o_s0.ext y
  replace o_s1 := o_s1.ext y
  have ll10 := y.le
  have Sc := S
  refine Ret.at (spec_TaxIn_c o_s0.reps rfl o_s1.reps rfl a2) ?_
  rintro v W10 ⟨vs_w0, f_w0, vs_w1, f_w1, vs_w2, f_w2, hv, o_w0, nd_w0, co_w0, ct_w0, o_w1, nd_w1, co_w1, ct_w1, o_w2, nd_w2, co_w2, ct_w2, dis_w_0_1, dis_w_0_2, dis_w_1_2, y⟩
  subst hv
  have tn_w0 := tcnts_nn ct_w0
  have lt_o_w0 : ∀ k ∈ f_w0, W9.heap.size ≤ k ∧ k < W10.heap.size := o_w0.lt
  have tn_w1 := tcnts_nn ct_w1
  have lt_o_w1 : ∀ k ∈ f_w1, W9.heap.size ≤ k ∧ k < W10.heap.size := o_w1.lt
  have tn_w2 := tcnts_nn ct_w2
  have lt_o_w2 : ∀ k ∈ f_w2, W9.heap.size ≤ k ∧ k < W10.heap.size := o_w2.lt
  replace x := x.trans y
  replace bk_a0 := bk_a0.ext y
  replace bk_a1 := bk_a1.ext y
  replace S := S.ext y
  have ll11 := y.le
  obtain ⟨gw00, gw01, gw02p, gw02n, gw02c, gw02z, rfl, hd_w0, gw02h⟩ := open_Money o_w0.reps co_w0
  obtain ⟨gw10, gw11, gw12p, gw12n, gw12c, gw12z, rfl, hd_w1, gw12h⟩ := open_Money o_w1.reps co_w1
  obtain ⟨gw20, gw21p, gw21n, gw21c, gw21z, gw22p, gw22n, gw22c, gw22z, rfl, hd_w2, gw21h, gw22h⟩ := open_Rat o_w2.reps co_w2
  refine ⟨_, _, _, _, _, _, _, _, _, _, _, _, _, _, _, _, _, _, rfl, ?_⟩
  intro ssx W11 r_w0 F G_w0
  have S := S.step F
  have y := F.ext
  replace x := x.trans y
  replace bk_a0 := bk_a0.ext y
  replace bk_a1 := bk_a1.ext y
  replace o_w0 := o_w0.ext y
  replace o_w1 := o_w1.ext y
  replace o_w2 := o_w2.ext y
  have ll12 := y.le
  have FF := F
  intro ssx W12 r_w1 F G_w1
  have S := S.step F
  have y := F.ext
  replace x := x.trans y
  replace bk_a0 := bk_a0.ext y
  replace bk_a1 := bk_a1.ext y
  replace o_w0 := o_w0.ext y
  replace o_w1 := o_w1.ext y
  replace o_w2 := o_w2.ext y
  have ll13 := y.le
  have FF := FF.trans F
  have G_w0 := F.keeps G_w0
  intro ssx W13 r_w2 F G_w2
  have S := S.step F
  have y := F.ext
  replace x := x.trans y
  replace bk_a0 := bk_a0.ext y
  replace bk_a1 := bk_a1.ext y
  replace o_w0 := o_w0.ext y
  replace o_w1 := o_w1.ext y
  replace o_w2 := o_w2.ext y
  have ll14 := y.le
  have FF := FF.trans F
  have G_w0 := F.keeps G_w0
  have G_w1 := F.keeps G_w1
  obtain ⟨sr_w0, lr_w0, bk_w0⟩ := S.blk G_w0 rfl
  have ap_w0 := Sc.apart FF G_w0
  obtain ⟨sr_w1, lr_w1, bk_w1⟩ := S.blk G_w1 rfl
  have ap_w1 := Sc.apart FF G_w1
  obtain ⟨sr_w2, lr_w2, bk_w2⟩ := S.blk G_w2 rfl
  have ap_w2 := Sc.apart FF G_w2
  have ne_w0_w1 := S.ne G_w0 G_w1 (by decide)
  have ne_w0_w2 := S.ne G_w0 G_w2 (by decide)
  have ne_w1_w2 := S.ne G_w1 G_w2 (by decide)
  obtain ⟨W14, st, bq, ch, sz⟩ := bk_w0.storeA0 (P := P) (t := T_impl_Money) (xs := [.string gw00, .bool gw01, .slice gw02p gw02n gw02c]) (by kernel_rfl) rfl o_w0.reps.cells1
  replace x := x.chg ch (by simp; omega)
  replace bk_a0 := bk_a0.chg ch (by simp; omega)
  replace bk_a1 := bk_a1.chg ch (by simp; omega)
  replace bk_w1 := bk_w1.chg ch (by simp; omega)
  replace bk_w2 := bk_w2.chg ch (by simp; omega)
  replace o_w0 := o_w0.chg ch (fun k hk hm => by have h1 := lt_o_w0 k hk; simp at hm; omega)
  replace o_w1 := o_w1.chg ch (fun k hk hm => by have h1 := lt_o_w1 k hk; simp at hm; omega)
  replace o_w2 := o_w2.chg ch (fun k hk hm => by have h1 := lt_o_w2 k hk; simp at hm; omega)
  have bk_w0 := bq; clear bq
  have ll15 := ch.size
  refine ⟨_, st, ?_⟩
  obtain ⟨W15, st, bq, ch, sz⟩ := bk_w1.storeA0 (P := P) (t := T_impl_Money) (xs := [.string gw10, .bool gw11, .slice gw12p gw12n gw12c]) (by kernel_rfl) rfl o_w1.reps.cells1
  replace x := x.chg ch (by simp; omega)
  replace bk_a0 := bk_a0.chg ch (by simp; omega)
  replace bk_a1 := bk_a1.chg ch (by simp; omega)
  replace bk_w0 := bk_w0.chg ch (by simp; omega)
  replace bk_w2 := bk_w2.chg ch (by simp; omega)
  replace o_w0 := o_w0.chg ch (fun k hk hm => by have h1 := lt_o_w0 k hk; simp at hm; omega)
  replace o_w1 := o_w1.chg ch (fun k hk hm => by have h1 := lt_o_w1 k hk; simp at hm; omega)
  replace o_w2 := o_w2.chg ch (fun k hk hm => by have h1 := lt_o_w2 k hk; simp at hm; omega)
  have bk_w1 := bq; clear bq
  have ll16 := ch.size
  refine ⟨_, st, ?_⟩
  obtain ⟨W16, st, bq, ch, sz⟩ := bk_w2.storeA0 (P := P) (t := T_impl_Rat) (xs := [.bool gw20, .slice gw21p gw21n gw21c, .slice gw22p gw22n gw22c]) (by kernel_rfl) rfl o_w2.reps.cells1
  replace x := x.chg ch (by simp; omega)
  replace bk_a0 := bk_a0.chg ch (by simp; omega)
  replace bk_a1 := bk_a1.chg ch (by simp; omega)
  replace bk_w0 := bk_w0.chg ch (by simp; omega)
  replace bk_w1 := bk_w1.chg ch (by simp; omega)
  replace o_w0 := o_w0.chg ch (fun k hk hm => by have h1 := lt_o_w0 k hk; simp at hm; omega)
  replace o_w1 := o_w1.chg ch (fun k hk hm => by have h1 := lt_o_w1 k hk; simp at hm; omega)
  replace o_w2 := o_w2.chg ch (fun k hk hm => by have h1 := lt_o_w2 k hk; simp at hm; omega)
  have bk_w2 := bq; clear bq
  have ll17 := ch.size
  refine ⟨_, st, ?_⟩
  refine ⟨_, _, _, _, _, bk_a0.loadA0 (by kernel_rfl), ?_⟩
  refine Ret.at (laws_toMoney_c (hr0.ext x) rfl (by simp only [bulks, D0.bulk, List.map_cons, List.map_nil, List.sum_cons, List.sum_nil]; omega)) ?_
  rintro v W17 ⟨vs, f_x0, hv, o_x0, nd_x0, y⟩
  subst hv
  obtain ⟨tx00, tx01, tx02p, tx02n, tx02c, tx02z, rfl, hdx0, tx02h⟩ := open_Money o_x0.reps rfl
  have lt_o_x0 : ∀ k ∈ f_x0, W16.heap.size ≤ k ∧ k < W17.heap.size := o_x0.lt
  replace x := x.trans y
  replace bk_a0 := bk_a0.ext y
  replace bk_a1 := bk_a1.ext y
  replace bk_w0 := bk_w0.ext y
  replace bk_w1 := bk_w1.ext y
  replace bk_w2 := bk_w2.ext y
  replace o_w0 := o_w0.ext y
  replace o_w1 := o_w1.ext y
  replace o_w2 := o_w2.ext y
  have ll18 := y.le
  refine ⟨_, _, _, _, _, rfl, ?_⟩
  intro r_x0 W18 hn
  have er_x0 := hn.r_eq; have sr_x0 := hn.size
  have y := hn.ext
  replace x := x.trans y
  replace bk_a0 := bk_a0.ext y
  replace bk_a1 := bk_a1.ext y
  replace bk_w0 := bk_w0.ext y
  replace bk_w1 := bk_w1.ext y
  replace bk_w2 := bk_w2.ext y
  replace o_w0 := o_w0.ext y
  replace o_w1 := o_w1.ext y
  replace o_w2 := o_w2.ext y
  replace o_x0 := o_x0.ext y
  have ll19 := y.le
  have bk_x0 := hn.blk; clear hn
  obtain ⟨W19, st, bq, ch, sz⟩ := bk_x0.storeA0 (P := P) (t := T_impl_Money) (xs := [.string tx00, .bool tx01, .slice tx02p tx02n tx02c]) (by kernel_rfl) rfl o_x0.reps.cells1
  replace x := x.chg ch (by simp; omega)
  replace bk_a0 := bk_a0.chg ch (by simp; omega)
  replace bk_a1 := bk_a1.chg ch (by simp; omega)
  replace bk_w0 := bk_w0.chg ch (by simp; omega)
  replace bk_w1 := bk_w1.chg ch (by simp; omega)
  replace bk_w2 := bk_w2.chg ch (by simp; omega)
  replace o_w0 := o_w0.chg ch (fun k hk hm => by have h1 := lt_o_w0 k hk; simp at hm; omega)
  replace o_w1 := o_w1.chg ch (fun k hk hm => by have h1 := lt_o_w1 k hk; simp at hm; omega)
  replace o_w2 := o_w2.chg ch (fun k hk hm => by have h1 := lt_o_w2 k hk; simp at hm; omega)
  replace o_x0 := o_x0.chg ch (fun k hk hm => by have h1 := lt_o_x0 k hk; simp at hm; omega)
  have bk_x0 := bq; clear bq
  have ll20 := ch.size
  refine ⟨_, st, ?_⟩
  refine ⟨_, _, _, _, _, bk_a1.loadA0 (by kernel_rfl), ?_⟩
  refine Ret.at (laws_toDec_c (hr1.ext x) rfl (by simp only [bulks, D0.bulk, List.map_cons, List.map_nil, List.sum_cons, List.sum_nil]; omega)) ?_
  rintro v W20 ⟨vs, f_x1, hv, o_x1, nd_x1, y⟩
  subst hv
  obtain ⟨tx10, tx11p, tx11n, tx11c, tx11z, tx12, rfl, hdx1, tx11h⟩ := open_Dec o_x1.reps rfl
  have lt_o_x1 : ∀ k ∈ f_x1, W19.heap.size ≤ k ∧ k < W20.heap.size := o_x1.lt
  replace x := x.trans y
  replace bk_a0 := bk_a0.ext y
  replace bk_a1 := bk_a1.ext y
  replace bk_w0 := bk_w0.ext y
  replace bk_w1 := bk_w1.ext y
  replace bk_w2 := bk_w2.ext y
  replace bk_x0 := bk_x0.ext y
  replace o_w0 := o_w0.ext y
  replace o_w1 := o_w1.ext y
  replace o_w2 := o_w2.ext y
  replace o_x0 := o_x0.ext y
  have ll21 := y.le
  refine ⟨_, _, _, _, _, rfl, ?_⟩
  intro r_x1 W21 hn
  have er_x1 := hn.r_eq; have sr_x1 := hn.size
  have y := hn.ext
  replace x := x.trans y
  replace bk_a0 := bk_a0.ext y
  replace bk_a1 := bk_a1.ext y
  replace bk_w0 := bk_w0.ext y
  replace bk_w1 := bk_w1.ext y
  replace bk_w2 := bk_w2.ext y
  replace bk_x0 := bk_x0.ext y
  replace o_w0 := o_w0.ext y
  replace o_w1 := o_w1.ext y
  replace o_w2 := o_w2.ext y
  replace o_x0 := o_x0.ext y
  replace o_x1 := o_x1.ext y
  have ll22 := y.le
  have bk_x1 := hn.blk; clear hn
  obtain ⟨W22, st, bq, ch, sz⟩ := bk_x1.storeA0 (P := P) (t := T_impl_Dec) (xs := [.bool tx10, .slice tx11p tx11n tx11c, .int .i64 tx12]) (by kernel_rfl) rfl o_x1.reps.cells1
  replace x := x.chg ch (by simp; omega)
  replace bk_a0 := bk_a0.chg ch (by simp; omega)
  replace bk_a1 := bk_a1.chg ch (by simp; omega)
  replace bk_w0 := bk_w0.chg ch (by simp; omega)
  replace bk_w1 := bk_w1.chg ch (by simp; omega)
  replace bk_w2 := bk_w2.chg ch (by simp; omega)
  replace bk_x0 := bk_x0.chg ch (by simp; omega)
  replace o_w0 := o_w0.chg ch (fun k hk hm => by have h1 := lt_o_w0 k hk; simp at hm; omega)
  replace o_w1 := o_w1.chg ch (fun k hk hm => by have h1 := lt_o_w1 k hk; simp at hm; omega)
  replace o_w2 := o_w2.chg ch (fun k hk hm => by have h1 := lt_o_w2 k hk; simp at hm; omega)
  replace o_x0 := o_x0.chg ch (fun k hk hm => by have h1 := lt_o_x0 k hk; simp at hm; omega)
  replace o_x1 := o_x1.chg ch (fun k hk hm => by have h1 := lt_o_x1 k hk; simp at hm; omega)
  have bk_x1 := bq; clear bq
  have ll23 := ch.size
  refine ⟨_, st, ?_⟩
  refine ⟨_, _, _, _, _, bk_x0.loadA0 (by kernel_rfl), ?_⟩
  refine ⟨_, _, _, _, _, bk_x1.loadA0 (by kernel_rfl), ?_⟩
  refine Ret.at (impl_TaxIn_c o_x0.reps rfl o_x1.reps rfl a2 (ht.ext x)) ?_
  rintro v W23 ⟨vs_g0, f_g0, vs_g1, f_g1, vs_g2, f_g2, hv, o_g0, nd_g0, co_g0, ct_g0, o_g1, nd_g1, co_g1, ct_g1, o_g2, nd_g2, co_g2, ct_g2, dis_g_0_1, dis_g_0_2, dis_g_1_2, y⟩
  subst hv
  have tn_g0 := tcnts_nn ct_g0
  have lt_o_g0 : ∀ k ∈ f_g0, W22.heap.size ≤ k ∧ k < W23.heap.size := o_g0.lt
  have tn_g1 := tcnts_nn ct_g1
  have lt_o_g1 : ∀ k ∈ f_g1, W22.heap.size ≤ k ∧ k < W23.heap.size := o_g1.lt
  have tn_g2 := tcnts_nn ct_g2
  have lt_o_g2 : ∀ k ∈ f_g2, W22.heap.size ≤ k ∧ k < W23.heap.size := o_g2.lt
  replace x := x.trans y
  replace bk_a0 := bk_a0.ext y
  replace bk_a1 := bk_a1.ext y
  replace bk_w0 := bk_w0.ext y
  replace bk_w1 := bk_w1.ext y
  replace bk_w2 := bk_w2.ext y
  replace bk_x0 := bk_x0.ext y
  replace bk_x1 := bk_x1.ext y
  replace o_w0 := o_w0.ext y
  replace o_w1 := o_w1.ext y
  replace o_w2 := o_w2.ext y
  replace o_x0 := o_x0.ext y
  replace o_x1 := o_x1.ext y
  have ll24 := y.le
  obtain ⟨gg00, gg01, gg02p, gg02n, gg02c, gg02z, rfl, hd_g0, gg02h⟩ := open_Money o_g0.reps co_g0
  obtain ⟨gg10, gg11, gg12p, gg12n, gg12c, gg12z, rfl, hd_g1, gg12h⟩ := open_Money o_g1.reps co_g1
  obtain ⟨gg20, gg21p, gg21n, gg21c, gg21z, gg22p, gg22n, gg22c, gg22z, rfl, hd_g2, gg21h, gg22h⟩ := open_Rat o_g2.reps co_g2
  refine ⟨_, _, _, _, _, _, _, _, _, _, _, _, _, _, _, _, _, _, rfl, ?_⟩
  intro r_g0 W24 hn
  have er_g0 := hn.r_eq; have sr_g0 := hn.size
  have y := hn.ext
  replace x := x.trans y
  replace bk_a0 := bk_a0.ext y
  replace bk_a1 := bk_a1.ext y
  replace bk_w0 := bk_w0.ext y
  replace bk_w1 := bk_w1.ext y
  replace bk_w2 := bk_w2.ext y
  replace bk_x0 := bk_x0.ext y
  replace bk_x1 := bk_x1.ext y
  replace o_w0 := o_w0.ext y
  replace o_w1 := o_w1.ext y
  replace o_w2 := o_w2.ext y
  replace o_x0 := o_x0.ext y
  replace o_x1 := o_x1.ext y
  replace o_g0 := o_g0.ext y
  replace o_g1 := o_g1.ext y
  replace o_g2 := o_g2.ext y
  have ll25 := y.le
  have bk_g0 := hn.blk; clear hn
  intro r_g1 W25 hn
  have er_g1 := hn.r_eq; have sr_g1 := hn.size
  have y := hn.ext
  replace x := x.trans y
  replace bk_a0 := bk_a0.ext y
  replace bk_a1 := bk_a1.ext y
  replace bk_w0 := bk_w0.ext y
  replace bk_w1 := bk_w1.ext y
  replace bk_w2 := bk_w2.ext y
  replace bk_x0 := bk_x0.ext y
  replace bk_x1 := bk_x1.ext y
  replace bk_g0 := bk_g0.ext y
  replace o_w0 := o_w0.ext y
  replace o_w1 := o_w1.ext y
  replace o_w2 := o_w2.ext y
  replace o_x0 := o_x0.ext y
  replace o_x1 := o_x1.ext y
  replace o_g0 := o_g0.ext y
  replace o_g1 := o_g1.ext y
  replace o_g2 := o_g2.ext y
  have ll26 := y.le
  have bk_g1 := hn.blk; clear hn
  intro r_g2 W26 hn
  have er_g2 := hn.r_eq; have sr_g2 := hn.size
  have y := hn.ext
  replace x := x.trans y
  replace bk_a0 := bk_a0.ext y
  replace bk_a1 := bk_a1.ext y
  replace bk_w0 := bk_w0.ext y
  replace bk_w1 := bk_w1.ext y
  replace bk_w2 := bk_w2.ext y
  replace bk_x0 := bk_x0.ext y
  replace bk_x1 := bk_x1.ext y
  replace bk_g0 := bk_g0.ext y
  replace bk_g1 := bk_g1.ext y
  replace o_w0 := o_w0.ext y
  replace o_w1 := o_w1.ext y
  replace o_w2 := o_w2.ext y
  replace o_x0 := o_x0.ext y
  replace o_x1 := o_x1.ext y
  replace o_g0 := o_g0.ext y
  replace o_g1 := o_g1.ext y
  replace o_g2 := o_g2.ext y
  have ll27 := y.le
  have bk_g2 := hn.blk; clear hn
  obtain ⟨W27, st, bq, ch, sz⟩ := bk_g0.storeA0 (P := P) (t := T_impl_Money) (xs := [.string gg00, .bool gg01, .slice gg02p gg02n gg02c]) (by kernel_rfl) rfl o_g0.reps.cells1
  replace x := x.chg ch (by simp; omega)
  replace bk_a0 := bk_a0.chg ch (by simp; omega)
  replace bk_a1 := bk_a1.chg ch (by simp; omega)
  replace bk_w0 := bk_w0.chg ch (by simp; omega)
  replace bk_w1 := bk_w1.chg ch (by simp; omega)
  replace bk_w2 := bk_w2.chg ch (by simp; omega)
  replace bk_x0 := bk_x0.chg ch (by simp; omega)
  replace bk_x1 := bk_x1.chg ch (by simp; omega)
  replace bk_g1 := bk_g1.chg ch (by simp; omega)
  replace bk_g2 := bk_g2.chg ch (by simp; omega)
  replace o_w0 := o_w0.chg ch (fun k hk hm => by have h1 := lt_o_w0 k hk; simp at hm; omega)
  replace o_w1 := o_w1.chg ch (fun k hk hm => by have h1 := lt_o_w1 k hk; simp at hm; omega)
  replace o_w2 := o_w2.chg ch (fun k hk hm => by have h1 := lt_o_w2 k hk; simp at hm; omega)
  replace o_x0 := o_x0.chg ch (fun k hk hm => by have h1 := lt_o_x0 k hk; simp at hm; omega)
  replace o_x1 := o_x1.chg ch (fun k hk hm => by have h1 := lt_o_x1 k hk; simp at hm; omega)
  replace o_g0 := o_g0.chg ch (fun k hk hm => by have h1 := lt_o_g0 k hk; simp at hm; omega)
  replace o_g1 := o_g1.chg ch (fun k hk hm => by have h1 := lt_o_g1 k hk; simp at hm; omega)
  replace o_g2 := o_g2.chg ch (fun k hk hm => by have h1 := lt_o_g2 k hk; simp at hm; omega)
  have bk_g0 := bq; clear bq
  have ll28 := ch.size
  refine ⟨_, st, ?_⟩
  obtain ⟨W28, st, bq, ch, sz⟩ := bk_g1.storeA0 (P := P) (t := T_impl_Money) (xs := [.string gg10, .bool gg11, .slice gg12p gg12n gg12c]) (by kernel_rfl) rfl o_g1.reps.cells1
  replace x := x.chg ch (by simp; omega)
  replace bk_a0 := bk_a0.chg ch (by simp; omega)
  replace bk_a1 := bk_a1.chg ch (by simp; omega)
  replace bk_w0 := bk_w0.chg ch (by simp; omega)
  replace bk_w1 := bk_w1.chg ch (by simp; omega)
  replace bk_w2 := bk_w2.chg ch (by simp; omega)
  replace bk_x0 := bk_x0.chg ch (by simp; omega)
  replace bk_x1 := bk_x1.chg ch (by simp; omega)
  replace bk_g0 := bk_g0.chg ch (by simp; omega)
  replace bk_g2 := bk_g2.chg ch (by simp; omega)
  replace o_w0 := o_w0.chg ch (fun k hk hm => by have h1 := lt_o_w0 k hk; simp at hm; omega)
  replace o_w1 := o_w1.chg ch (fun k hk hm => by have h1 := lt_o_w1 k hk; simp at hm; omega)
  replace o_w2 := o_w2.chg ch (fun k hk hm => by have h1 := lt_o_w2 k hk; simp at hm; omega)
  replace o_x0 := o_x0.chg ch (fun k hk hm => by have h1 := lt_o_x0 k hk; simp at hm; omega)
  replace o_x1 := o_x1.chg ch (fun k hk hm => by have h1 := lt_o_x1 k hk; simp at hm; omega)
  replace o_g0 := o_g0.chg ch (fun k hk hm => by have h1 := lt_o_g0 k hk; simp at hm; omega)
  replace o_g1 := o_g1.chg ch (fun k hk hm => by have h1 := lt_o_g1 k hk; simp at hm; omega)
  replace o_g2 := o_g2.chg ch (fun k hk hm => by have h1 := lt_o_g2 k hk; simp at hm; omega)
  have bk_g1 := bq; clear bq
  have ll29 := ch.size
  refine ⟨_, st, ?_⟩
  obtain ⟨W29, st, bq, ch, sz⟩ := bk_g2.storeA0 (P := P) (t := T_impl_Rat) (xs := [.bool gg20, .slice gg21p gg21n gg21c, .slice gg22p gg22n gg22c]) (by kernel_rfl) rfl o_g2.reps.cells1
  replace x := x.chg ch (by simp; omega)
  replace bk_a0 := bk_a0.chg ch (by simp; omega)
  replace bk_a1 := bk_a1.chg ch (by simp; omega)
  replace bk_w0 := bk_w0.chg ch (by simp; omega)
  replace bk_w1 := bk_w1.chg ch (by simp; omega)
  replace bk_w2 := bk_w2.chg ch (by simp; omega)
  replace bk_x0 := bk_x0.chg ch (by simp; omega)
  replace bk_x1 := bk_x1.chg ch (by simp; omega)
  replace bk_g0 := bk_g0.chg ch (by simp; omega)
  replace bk_g1 := bk_g1.chg ch (by simp; omega)
  replace o_w0 := o_w0.chg ch (fun k hk hm => by have h1 := lt_o_w0 k hk; simp at hm; omega)
  replace o_w1 := o_w1.chg ch (fun k hk hm => by have h1 := lt_o_w1 k hk; simp at hm; omega)
  replace o_w2 := o_w2.chg ch (fun k hk hm => by have h1 := lt_o_w2 k hk; simp at hm; omega)
  replace o_x0 := o_x0.chg ch (fun k hk hm => by have h1 := lt_o_x0 k hk; simp at hm; omega)
  replace o_x1 := o_x1.chg ch (fun k hk hm => by have h1 := lt_o_x1 k hk; simp at hm; omega)
  replace o_g0 := o_g0.chg ch (fun k hk hm => by have h1 := lt_o_g0 k hk; simp at hm; omega)
  replace o_g1 := o_g1.chg ch (fun k hk hm => by have h1 := lt_o_g1 k hk; simp at hm; omega)
  replace o_g2 := o_g2.chg ch (fun k hk hm => by have h1 := lt_o_g2 k hk; simp at hm; omega)
  have bk_g2 := bq; clear bq
  have ll30 := ch.size
  refine ⟨_, st, ?_⟩
  refine ⟨_, _, _, _, _, bk_g0.loadA0 (by kernel_rfl), _, _, _, _, _, bk_w0.loadA0 (by kernel_rfl), ?_⟩
  refine Ret.at (laws_eqMoney_c o_g0.reps o_w0.reps co_g0 co_w0) ?_
  rintro v W30 ⟨hv, y⟩
  subst hv
  replace x := x.trans y
  replace bk_a0 := bk_a0.ext y
  replace bk_a1 := bk_a1.ext y
  replace bk_w0 := bk_w0.ext y
  replace bk_w1 := bk_w1.ext y
  replace bk_w2 := bk_w2.ext y
  replace bk_x0 := bk_x0.ext y
  replace bk_x1 := bk_x1.ext y
  replace bk_g0 := bk_g0.ext y
  replace bk_g1 := bk_g1.ext y
  replace bk_g2 := bk_g2.ext y
  replace o_w0 := o_w0.ext y
  replace o_w1 := o_w1.ext y
  replace o_w2 := o_w2.ext y
  replace o_x0 := o_x0.ext y
  replace o_x1 := o_x1.ext y
  replace o_g0 := o_g0.ext y
  replace o_g1 := o_g1.ext y
  replace o_g2 := o_g2.ext y
  have ll31 := y.le
  refine ⟨_, rfl, ifN (fun h => absurd h (by simp)) (fun _ => ?_)⟩
  refine ⟨_, _, _, _, _, bk_g1.loadA0 (by kernel_rfl), _, _, _, _, _, bk_w1.loadA0 (by kernel_rfl), ?_⟩
  refine Ret.at (laws_eqMoney_c o_g1.reps o_w1.reps co_g1 co_w1) ?_
  rintro v W31 ⟨hv, y⟩
  subst hv
  replace x := x.trans y
  replace bk_a0 := bk_a0.ext y
  replace bk_a1 := bk_a1.ext y
  replace bk_w0 := bk_w0.ext y
  replace bk_w1 := bk_w1.ext y
  replace bk_w2 := bk_w2.ext y
  replace bk_x0 := bk_x0.ext y
  replace bk_x1 := bk_x1.ext y
  replace bk_g0 := bk_g0.ext y
  replace bk_g1 := bk_g1.ext y
  replace bk_g2 := bk_g2.ext y
  replace o_w0 := o_w0.ext y
  replace o_w1 := o_w1.ext y
  replace o_w2 := o_w2.ext y
  replace o_x0 := o_x0.ext y
  replace o_x1 := o_x1.ext y
  replace o_g0 := o_g0.ext y
  replace o_g1 := o_g1.ext y
  replace o_g2 := o_g2.ext y
  have ll32 := y.le
  refine ⟨_, rfl, ifN (fun h => absurd h (by simp)) (fun _ => ?_)⟩
  refine ⟨_, _, _, _, _, _, _, bk_g2.loadA0 (by kernel_rfl), _, _, _, _, _, _, _, bk_w2.loadA0 (by kernel_rfl), ?_⟩
  refine Ret.at (laws_eqRat_c o_g2.reps o_w2.reps co_g2 co_w2) ?_
  rintro v W32 ⟨hv, y⟩
  subst hv
  replace x := x.trans y
  replace bk_a0 := bk_a0.ext y
  replace bk_a1 := bk_a1.ext y
  replace bk_w0 := bk_w0.ext y
  replace bk_w1 := bk_w1.ext y
  replace bk_w2 := bk_w2.ext y
  replace bk_x0 := bk_x0.ext y
  replace bk_x1 := bk_x1.ext y
  replace bk_g0 := bk_g0.ext y
  replace bk_g1 := bk_g1.ext y
  replace bk_g2 := bk_g2.ext y
  replace o_w0 := o_w0.ext y
  replace o_w1 := o_w1.ext y
  replace o_w2 := o_w2.ext y
  replace o_x0 := o_x0.ext y
  replace o_x1 := o_x1.ext y
  replace o_g0 := o_g0.ext y
  replace o_g1 := o_g1.ext y
  replace o_g2 := o_g2.ext y
  have ll33 := y.le
  refine ⟨_, rfl, ifN (fun h => absurd h (by simp)) (fun _ => ?_)⟩
  refine ⟨fun h => absurd h (bne_no rfl), fun _ => ?_⟩
  unfold laws_FnExactTaxIn_j0
  refine ⟨_, _, _, _, _, fun W' hW => (bk_x0.ext ((Ext.drew _).trans hW)).loadA0 (by kernel_rfl), _, _, _, _, _, fun W' hW => (bk_a0.ext ((Ext.drew _).trans hW)).loadA0 (by kernel_rfl), ?_⟩
  have y := Ext.drew W32
  replace x := x.trans y
  replace bk_a0 := bk_a0.ext y
  replace bk_a1 := bk_a1.ext y
  replace bk_w0 := bk_w0.ext y
  replace bk_w1 := bk_w1.ext y
  replace bk_w2 := bk_w2.ext y
  replace bk_x0 := bk_x0.ext y
  replace bk_x1 := bk_x1.ext y
  replace bk_g0 := bk_g0.ext y
  replace bk_g1 := bk_g1.ext y
  replace bk_g2 := bk_g2.ext y
  replace o_w0 := o_w0.ext y
  replace o_w1 := o_w1.ext y
  replace o_w2 := o_w2.ext y
  replace o_x0 := o_x0.ext y
  replace o_x1 := o_x1.ext y
  replace o_g0 := o_g0.ext y
  replace o_g1 := o_g1.ext y
  replace o_g2 := o_g2.ext y
  have ll34 := y.le
  refine Ret.at (laws_toMoney_c (hr0.ext x) rfl (by simp only [bulks, D0.bulk, List.map_cons, List.map_nil, List.sum_cons, List.sum_nil]; omega)) ?_
  rintro v W33 ⟨vs, f_y0, hv, o_y0, nd_y0, y⟩
  subst hv
  obtain ⟨ty00, ty01, ty02p, ty02n, ty02c, ty02z, rfl, hdy0, ty02h⟩ := open_Money o_y0.reps rfl
  have lt_o_y0 : ∀ k ∈ f_y0, W32.heap.size ≤ k ∧ k < W33.heap.size := o_y0.lt
  have y2 := y
  replace x := x.trans y
  replace bk_a0 := bk_a0.ext y
  replace bk_a1 := bk_a1.ext y
  replace bk_w0 := bk_w0.ext y
  replace bk_w1 := bk_w1.ext y
  replace bk_w2 := bk_w2.ext y
  replace bk_x0 := bk_x0.ext y
  replace bk_x1 := bk_x1.ext y
  replace bk_g0 := bk_g0.ext y
  replace bk_g1 := bk_g1.ext y
  replace bk_g2 := bk_g2.ext y
  replace o_w0 := o_w0.ext y
  replace o_w1 := o_w1.ext y
  replace o_w2 := o_w2.ext y
  replace o_x0 := o_x0.ext y
  replace o_x1 := o_x1.ext y
  replace o_g0 := o_g0.ext y
  replace o_g1 := o_g1.ext y
  replace o_g2 := o_g2.ext y
  have ll35 := y.le
  refine ⟨_, _, _, _, _, rfl, y, ?_⟩
  refine Ret.at (laws_eqMoney_c o_x0.reps o_y0.reps rfl rfl) ?_
  rintro v W34 ⟨hv, y⟩
  subst hv
  replace x := x.trans y
  replace bk_a0 := bk_a0.ext y
  replace bk_a1 := bk_a1.ext y
  replace bk_w0 := bk_w0.ext y
  replace bk_w1 := bk_w1.ext y
  replace bk_w2 := bk_w2.ext y
  replace bk_x0 := bk_x0.ext y
  replace bk_x1 := bk_x1.ext y
  replace bk_g0 := bk_g0.ext y
  replace bk_g1 := bk_g1.ext y
  replace bk_g2 := bk_g2.ext y
  replace o_w0 := o_w0.ext y
  replace o_w1 := o_w1.ext y
  replace o_w2 := o_w2.ext y
  replace o_x0 := o_x0.ext y
  replace o_x1 := o_x1.ext y
  replace o_g0 := o_g0.ext y
  replace o_g1 := o_g1.ext y
  replace o_g2 := o_g2.ext y
  have ll36 := y.le
  refine ⟨_, rfl, ifN (fun h => absurd h (by simp)) (fun _ => ?_)⟩
  refine ⟨_, _, _, _, _, fun W' hW => (bk_x1.ext ((Ext.drew _).trans hW)).loadA0 (by kernel_rfl), _, _, _, _, _, fun W' hW => (bk_a1.ext ((Ext.drew _).trans hW)).loadA0 (by kernel_rfl), ?_⟩
  have y := Ext.drew W34
  replace x := x.trans y
  replace bk_a0 := bk_a0.ext y
  replace bk_a1 := bk_a1.ext y
  replace bk_w0 := bk_w0.ext y
  replace bk_w1 := bk_w1.ext y
  replace bk_w2 := bk_w2.ext y
  replace bk_x0 := bk_x0.ext y
  replace bk_x1 := bk_x1.ext y
  replace bk_g0 := bk_g0.ext y
  replace bk_g1 := bk_g1.ext y
  replace bk_g2 := bk_g2.ext y
  replace o_w0 := o_w0.ext y
  replace o_w1 := o_w1.ext y
  replace o_w2 := o_w2.ext y
  replace o_x0 := o_x0.ext y
  replace o_x1 := o_x1.ext y
  replace o_g0 := o_g0.ext y
  replace o_g1 := o_g1.ext y
  replace o_g2 := o_g2.ext y
  have ll37 := y.le
  refine Ret.at (laws_toDec_c (hr1.ext x) rfl (by simp only [bulks, D0.bulk, List.map_cons, List.map_nil, List.sum_cons, List.sum_nil]; omega)) ?_
  rintro v W35 ⟨vs, f_y1, hv, o_y1, nd_y1, y⟩
  subst hv
  obtain ⟨ty10, ty11p, ty11n, ty11c, ty11z, ty12, rfl, hdy1, ty11h⟩ := open_Dec o_y1.reps rfl
  have lt_o_y1 : ∀ k ∈ f_y1, W34.heap.size ≤ k ∧ k < W35.heap.size := o_y1.lt
  have y2 := y
  replace x := x.trans y
  replace bk_a0 := bk_a0.ext y
  replace bk_a1 := bk_a1.ext y
  replace bk_w0 := bk_w0.ext y
  replace bk_w1 := bk_w1.ext y
  replace bk_w2 := bk_w2.ext y
  replace bk_x0 := bk_x0.ext y
  replace bk_x1 := bk_x1.ext y
  replace bk_g0 := bk_g0.ext y
  replace bk_g1 := bk_g1.ext y
  replace bk_g2 := bk_g2.ext y
  replace o_w0 := o_w0.ext y
  replace o_w1 := o_w1.ext y
  replace o_w2 := o_w2.ext y
  replace o_x0 := o_x0.ext y
  replace o_x1 := o_x1.ext y
  replace o_g0 := o_g0.ext y
  replace o_g1 := o_g1.ext y
  replace o_g2 := o_g2.ext y
  have ll38 := y.le
  refine ⟨_, _, _, _, _, rfl, y, ?_⟩
  refine Ret.at (laws_eqDec_c o_x1.reps o_y1.reps rfl rfl) ?_
  rintro v W36 ⟨hv, y⟩
  subst hv
  replace x := x.trans y
  replace bk_a0 := bk_a0.ext y
  replace bk_a1 := bk_a1.ext y
  replace bk_w0 := bk_w0.ext y
  replace bk_w1 := bk_w1.ext y
  replace bk_w2 := bk_w2.ext y
  replace bk_x0 := bk_x0.ext y
  replace bk_x1 := bk_x1.ext y
  replace bk_g0 := bk_g0.ext y
  replace bk_g1 := bk_g1.ext y
  replace bk_g2 := bk_g2.ext y
  replace o_w0 := o_w0.ext y
  replace o_w1 := o_w1.ext y
  replace o_w2 := o_w2.ext y
  replace o_x0 := o_x0.ext y
  replace o_x1 := o_x1.ext y
  replace o_g0 := o_g0.ext y
  replace o_g1 := o_g1.ext y
  replace o_g2 := o_g2.ext y
  have ll39 := y.le
  refine ⟨_, rfl, ifN (fun h => absurd h (by simp)) (fun _ => ?_)⟩
  refine ⟨_, _, _, _, _, bk_x0.loadA0 (by kernel_rfl), ?_⟩
  refine Ret.at (laws_markMoney_c o_x0 nd_x0 rfl (by first | omega | (simp only [tcnts]; omega)) (by simp only [tcnts]; omega)) ?_
  rintro v W37 ⟨hv, on, ch⟩
  simp only [tcnts] at hv
  subst hv
  replace x := x.chg ch (fun k hk => by have := lt_o_x0 k hk; omega)
  replace bk_a0 := bk_a0.chg ch (fun hm => by have := lt_o_x0 _ hm; omega)
  replace bk_a1 := bk_a1.chg ch (fun hm => by have := lt_o_x0 _ hm; omega)
  replace bk_w0 := bk_w0.chg ch (fun hm => by have := lt_o_x0 _ hm; omega)
  replace bk_w1 := bk_w1.chg ch (fun hm => by have := lt_o_x0 _ hm; omega)
  replace bk_w2 := bk_w2.chg ch (fun hm => by have := lt_o_x0 _ hm; omega)
  replace bk_x0 := bk_x0.chg ch (fun hm => by have := lt_o_x0 _ hm; omega)
  replace bk_x1 := bk_x1.chg ch (fun hm => by have := lt_o_x0 _ hm; omega)
  replace bk_g0 := bk_g0.chg ch (fun hm => by have := lt_o_x0 _ hm; omega)
  replace bk_g1 := bk_g1.chg ch (fun hm => by have := lt_o_x0 _ hm; omega)
  replace bk_g2 := bk_g2.chg ch (fun hm => by have := lt_o_x0 _ hm; omega)
  replace o_w0 := o_w0.chg ch (fun k hk hm => by have h1 := lt_o_w0 k hk; have h2 := lt_o_x0 k hm; omega)
  replace o_w1 := o_w1.chg ch (fun k hk hm => by have h1 := lt_o_w1 k hk; have h2 := lt_o_x0 k hm; omega)
  replace o_w2 := o_w2.chg ch (fun k hk hm => by have h1 := lt_o_w2 k hk; have h2 := lt_o_x0 k hm; omega)
  replace o_x1 := o_x1.chg ch (fun k hk hm => by have h1 := lt_o_x1 k hk; have h2 := lt_o_x0 k hm; omega)
  replace o_g0 := o_g0.chg ch (fun k hk hm => by have h1 := lt_o_g0 k hk; have h2 := lt_o_x0 k hm; omega)
  replace o_g1 := o_g1.chg ch (fun k hk hm => by have h1 := lt_o_g1 k hk; have h2 := lt_o_x0 k hm; omega)
  replace o_g2 := o_g2.chg ch (fun k hk hm => by have h1 := lt_o_g2 k hk; have h2 := lt_o_x0 k hm; omega)
  have ll40 := ch.size
  replace o_x0 := on; clear on
  refine ⟨_, rfl, ?_⟩
  refine ⟨_, _, _, _, _, bk_x1.loadA0 (by kernel_rfl), ?_⟩
  refine Ret.at (laws_markDec_c o_x1 nd_x1 rfl (by first | omega | (simp only [tcnts]; omega)) (by simp only [tcnts]; omega)) ?_
  rintro v W38 ⟨hv, on, ch⟩
  simp only [tcnts] at hv
  subst hv
  replace x := x.chg ch (fun k hk => by have := lt_o_x1 k hk; omega)
  replace bk_a0 := bk_a0.chg ch (fun hm => by have := lt_o_x1 _ hm; omega)
  replace bk_a1 := bk_a1.chg ch (fun hm => by have := lt_o_x1 _ hm; omega)
  replace bk_w0 := bk_w0.chg ch (fun hm => by have := lt_o_x1 _ hm; omega)
  replace bk_w1 := bk_w1.chg ch (fun hm => by have := lt_o_x1 _ hm; omega)
  replace bk_w2 := bk_w2.chg ch (fun hm => by have := lt_o_x1 _ hm; omega)
  replace bk_x0 := bk_x0.chg ch (fun hm => by have := lt_o_x1 _ hm; omega)
  replace bk_x1 := bk_x1.chg ch (fun hm => by have := lt_o_x1 _ hm; omega)
  replace bk_g0 := bk_g0.chg ch (fun hm => by have := lt_o_x1 _ hm; omega)
  replace bk_g1 := bk_g1.chg ch (fun hm => by have := lt_o_x1 _ hm; omega)
  replace bk_g2 := bk_g2.chg ch (fun hm => by have := lt_o_x1 _ hm; omega)
  replace o_w0 := o_w0.chg ch (fun k hk hm => by have h1 := lt_o_w0 k hk; have h2 := lt_o_x1 k hm; omega)
  replace o_w1 := o_w1.chg ch (fun k hk hm => by have h1 := lt_o_w1 k hk; have h2 := lt_o_x1 k hm; omega)
  replace o_w2 := o_w2.chg ch (fun k hk hm => by have h1 := lt_o_w2 k hk; have h2 := lt_o_x1 k hm; omega)
  replace o_x0 := o_x0.chg ch (fun k hk hm => by have h1 := lt_o_x0 k hk; have h2 := lt_o_x1 k hm; omega)
  replace o_g0 := o_g0.chg ch (fun k hk hm => by have h1 := lt_o_g0 k hk; have h2 := lt_o_x1 k hm; omega)
  replace o_g1 := o_g1.chg ch (fun k hk hm => by have h1 := lt_o_g1 k hk; have h2 := lt_o_x1 k hm; omega)
  replace o_g2 := o_g2.chg ch (fun k hk hm => by have h1 := lt_o_g2 k hk; have h2 := lt_o_x1 k hm; omega)
  have ll41 := ch.size
  replace o_x1 := on; clear on
  refine ⟨_, rfl, ?_⟩
  refine ifD (fun h => absurd h (by omega)) (fun _ => ?_)
  refine ⟨_, _, _, _, _, bk_g0.loadA0 (by kernel_rfl), _, _, _, _, _, bk_w0.loadA0 (by kernel_rfl), ?_⟩
  refine Ret.at (laws_eqMoney_c o_g0.reps o_w0.reps co_g0 co_w0) ?_
  rintro v W39 ⟨hv, y⟩
  subst hv
  replace x := x.trans y
  replace bk_a0 := bk_a0.ext y
  replace bk_a1 := bk_a1.ext y
  replace bk_w0 := bk_w0.ext y
  replace bk_w1 := bk_w1.ext y
  replace bk_w2 := bk_w2.ext y
  replace bk_x0 := bk_x0.ext y
  replace bk_x1 := bk_x1.ext y
  replace bk_g0 := bk_g0.ext y
  replace bk_g1 := bk_g1.ext y
  replace bk_g2 := bk_g2.ext y
  replace o_w0 := o_w0.ext y
  replace o_w1 := o_w1.ext y
  replace o_w2 := o_w2.ext y
  replace o_x0 := o_x0.ext y
  replace o_x1 := o_x1.ext y
  replace o_g0 := o_g0.ext y
  replace o_g1 := o_g1.ext y
  replace o_g2 := o_g2.ext y
  have ll42 := y.le
  refine ⟨_, rfl, ifN (fun h => absurd h (by simp)) (fun _ => ?_)⟩
  refine ⟨_, _, _, _, _, bk_g1.loadA0 (by kernel_rfl), _, _, _, _, _, bk_w1.loadA0 (by kernel_rfl), ?_⟩
  refine Ret.at (laws_eqMoney_c o_g1.reps o_w1.reps co_g1 co_w1) ?_
  rintro v W40 ⟨hv, y⟩
  subst hv
  replace x := x.trans y
  replace bk_a0 := bk_a0.ext y
  replace bk_a1 := bk_a1.ext y
  replace bk_w0 := bk_w0.ext y
  replace bk_w1 := bk_w1.ext y
  replace bk_w2 := bk_w2.ext y
  replace bk_x0 := bk_x0.ext y
  replace bk_x1 := bk_x1.ext y
  replace bk_g0 := bk_g0.ext y
  replace bk_g1 := bk_g1.ext y
  replace bk_g2 := bk_g2.ext y
  replace o_w0 := o_w0.ext y
  replace o_w1 := o_w1.ext y
  replace o_w2 := o_w2.ext y
  replace o_x0 := o_x0.ext y
  replace o_x1 := o_x1.ext y
  replace o_g0 := o_g0.ext y
  replace o_g1 := o_g1.ext y
  replace o_g2 := o_g2.ext y
  have ll43 := y.le
  refine ⟨_, rfl, ifN (fun h => absurd h (by simp)) (fun _ => ?_)⟩
  refine ⟨_, _, _, _, _, _, _, bk_g2.loadA0 (by kernel_rfl), _, _, _, _, _, _, _, bk_w2.loadA0 (by kernel_rfl), ?_⟩
  refine Ret.at (laws_eqRat_c o_g2.reps o_w2.reps co_g2 co_w2) ?_
  rintro v W41 ⟨hv, y⟩
  subst hv
  replace x := x.trans y
  replace bk_a0 := bk_a0.ext y
  replace bk_a1 := bk_a1.ext y
  replace bk_w0 := bk_w0.ext y
  replace bk_w1 := bk_w1.ext y
  replace bk_w2 := bk_w2.ext y
  replace bk_x0 := bk_x0.ext y
  replace bk_x1 := bk_x1.ext y
  replace bk_g0 := bk_g0.ext y
  replace bk_g1 := bk_g1.ext y
  replace bk_g2 := bk_g2.ext y
  replace o_w0 := o_w0.ext y
  replace o_w1 := o_w1.ext y
  replace o_w2 := o_w2.ext y
  replace o_x0 := o_x0.ext y
  replace o_x1 := o_x1.ext y
  replace o_g0 := o_g0.ext y
  replace o_g1 := o_g1.ext y
  replace o_g2 := o_g2.ext y
  have ll44 := y.le
  refine ⟨_, rfl, ifN (fun h => absurd h (by simp)) (fun _ => ?_)⟩
  refine ⟨fun h => absurd h (bne_no rfl), fun _ => ?_⟩
  unfold laws_FnExactTaxIn_j1
  refine ⟨_, _, _, _, _, bk_g0.loadA0 (by kernel_rfl), ?_⟩
  refine Ret.at (laws_markMoney_c o_g0 nd_g0 co_g0 (by omega) (by omega)) ?_
  rintro v W42 ⟨hv, on, ch⟩
  subst hv
  replace x := x.chg ch (fun k hk => by have := lt_o_g0 k hk; omega)
  replace bk_a0 := bk_a0.chg ch (fun hm => by have := lt_o_g0 _ hm; omega)
  replace bk_a1 := bk_a1.chg ch (fun hm => by have := lt_o_g0 _ hm; omega)
  replace bk_w0 := bk_w0.chg ch (fun hm => by have := lt_o_g0 _ hm; omega)
  replace bk_w1 := bk_w1.chg ch (fun hm => by have := lt_o_g0 _ hm; omega)
  replace bk_w2 := bk_w2.chg ch (fun hm => by have := lt_o_g0 _ hm; omega)
  replace bk_x0 := bk_x0.chg ch (fun hm => by have := lt_o_g0 _ hm; omega)
  replace bk_x1 := bk_x1.chg ch (fun hm => by have := lt_o_g0 _ hm; omega)
  replace bk_g0 := bk_g0.chg ch (fun hm => by have := lt_o_g0 _ hm; omega)
  replace bk_g1 := bk_g1.chg ch (fun hm => by have := lt_o_g0 _ hm; omega)
  replace bk_g2 := bk_g2.chg ch (fun hm => by have := lt_o_g0 _ hm; omega)
  replace o_w0 := o_w0.chg ch (fun k hk hm => by have h1 := lt_o_w0 k hk; have h2 := lt_o_g0 k hm; omega)
  replace o_w1 := o_w1.chg ch (fun k hk hm => by have h1 := lt_o_w1 k hk; have h2 := lt_o_g0 k hm; omega)
  replace o_w2 := o_w2.chg ch (fun k hk hm => by have h1 := lt_o_w2 k hk; have h2 := lt_o_g0 k hm; omega)
  replace o_x0 := o_x0.chg ch (fun k hk hm => by have h1 := lt_o_x0 k hk; have h2 := lt_o_g0 k hm; omega)
  replace o_x1 := o_x1.chg ch (fun k hk hm => by have h1 := lt_o_x1 k hk; have h2 := lt_o_g0 k hm; omega)
  replace o_g1 := o_g1.chg ch (fun k hk hm => dis_g_0_1 k hm hk)
  replace o_g2 := o_g2.chg ch (fun k hk hm => dis_g_0_2 k hm hk)
  have ll45 := ch.size
  replace o_g0 := on; clear on
  refine ⟨_, rfl, ?_⟩
  refine ⟨_, _, _, _, _, bk_g1.loadA0 (by kernel_rfl), ?_⟩
  refine Ret.at (laws_markMoney_c o_g1 nd_g1 co_g1 (by omega) (by omega)) ?_
  rintro v W43 ⟨hv, on, ch⟩
  subst hv
  replace x := x.chg ch (fun k hk => by have := lt_o_g1 k hk; omega)
  replace bk_a0 := bk_a0.chg ch (fun hm => by have := lt_o_g1 _ hm; omega)
  replace bk_a1 := bk_a1.chg ch (fun hm => by have := lt_o_g1 _ hm; omega)
  replace bk_w0 := bk_w0.chg ch (fun hm => by have := lt_o_g1 _ hm; omega)
  replace bk_w1 := bk_w1.chg ch (fun hm => by have := lt_o_g1 _ hm; omega)
  replace bk_w2 := bk_w2.chg ch (fun hm => by have := lt_o_g1 _ hm; omega)
  replace bk_x0 := bk_x0.chg ch (fun hm => by have := lt_o_g1 _ hm; omega)
  replace bk_x1 := bk_x1.chg ch (fun hm => by have := lt_o_g1 _ hm; omega)
  replace bk_g0 := bk_g0.chg ch (fun hm => by have := lt_o_g1 _ hm; omega)
  replace bk_g1 := bk_g1.chg ch (fun hm => by have := lt_o_g1 _ hm; omega)
  replace bk_g2 := bk_g2.chg ch (fun hm => by have := lt_o_g1 _ hm; omega)
  replace o_w0 := o_w0.chg ch (fun k hk hm => by have h1 := lt_o_w0 k hk; have h2 := lt_o_g1 k hm; omega)
  replace o_w1 := o_w1.chg ch (fun k hk hm => by have h1 := lt_o_w1 k hk; have h2 := lt_o_g1 k hm; omega)
  replace o_w2 := o_w2.chg ch (fun k hk hm => by have h1 := lt_o_w2 k hk; have h2 := lt_o_g1 k hm; omega)
  replace o_x0 := o_x0.chg ch (fun k hk hm => by have h1 := lt_o_x0 k hk; have h2 := lt_o_g1 k hm; omega)
  replace o_x1 := o_x1.chg ch (fun k hk hm => by have h1 := lt_o_x1 k hk; have h2 := lt_o_g1 k hm; omega)
  replace o_g0 := o_g0.chg ch (fun k hk hm => dis_g_0_1 k hk hm)
  replace o_g2 := o_g2.chg ch (fun k hk hm => dis_g_1_2 k hm hk)
  have ll46 := ch.size
  replace o_g1 := on; clear on
  refine ⟨_, rfl, ?_⟩
  refine ⟨_, _, _, _, _, _, _, bk_g2.loadA0 (by kernel_rfl), ?_⟩
  refine Ret.at (laws_markRat_c o_g2 nd_g2 co_g2 (by omega) (by omega)) ?_
  rintro v W44 ⟨hv, on, ch⟩
  subst hv
  replace x := x.chg ch (fun k hk => by have := lt_o_g2 k hk; omega)
  replace bk_a0 := bk_a0.chg ch (fun hm => by have := lt_o_g2 _ hm; omega)
  replace bk_a1 := bk_a1.chg ch (fun hm => by have := lt_o_g2 _ hm; omega)
  replace bk_w0 := bk_w0.chg ch (fun hm => by have := lt_o_g2 _ hm; omega)
  replace bk_w1 := bk_w1.chg ch (fun hm => by have := lt_o_g2 _ hm; omega)
  replace bk_w2 := bk_w2.chg ch (fun hm => by have := lt_o_g2 _ hm; omega)
  replace bk_x0 := bk_x0.chg ch (fun hm => by have := lt_o_g2 _ hm; omega)
  replace bk_x1 := bk_x1.chg ch (fun hm => by have := lt_o_g2 _ hm; omega)
  replace bk_g0 := bk_g0.chg ch (fun hm => by have := lt_o_g2 _ hm; omega)
  replace bk_g1 := bk_g1.chg ch (fun hm => by have := lt_o_g2 _ hm; omega)
  replace bk_g2 := bk_g2.chg ch (fun hm => by have := lt_o_g2 _ hm; omega)
  replace o_w0 := o_w0.chg ch (fun k hk hm => by have h1 := lt_o_w0 k hk; have h2 := lt_o_g2 k hm; omega)
  replace o_w1 := o_w1.chg ch (fun k hk hm => by have h1 := lt_o_w1 k hk; have h2 := lt_o_g2 k hm; omega)
  replace o_w2 := o_w2.chg ch (fun k hk hm => by have h1 := lt_o_w2 k hk; have h2 := lt_o_g2 k hm; omega)
  replace o_x0 := o_x0.chg ch (fun k hk hm => by have h1 := lt_o_x0 k hk; have h2 := lt_o_g2 k hm; omega)
  replace o_x1 := o_x1.chg ch (fun k hk hm => by have h1 := lt_o_x1 k hk; have h2 := lt_o_g2 k hm; omega)
  replace o_g0 := o_g0.chg ch (fun k hk hm => dis_g_0_2 k hk hm)
  replace o_g1 := o_g1.chg ch (fun k hk hm => dis_g_1_2 k hk hm)
  have ll47 := ch.size
  replace o_g2 := on; clear on
  refine ⟨_, rfl, ?_⟩
  refine ⟨_, _, _, _, _, bk_g0.loadA0 (by kernel_rfl), ?_⟩
  refine Ret.at (laws_heldMoney_c o_g0.reps co_g0 (by omega) (by omega)) ?_
  rintro v W45 ⟨hv, y⟩
  subst hv
  replace x := x.trans y
  replace bk_a0 := bk_a0.ext y
  replace bk_a1 := bk_a1.ext y
  replace bk_w0 := bk_w0.ext y
  replace bk_w1 := bk_w1.ext y
  replace bk_w2 := bk_w2.ext y
  replace bk_x0 := bk_x0.ext y
  replace bk_x1 := bk_x1.ext y
  replace bk_g0 := bk_g0.ext y
  replace bk_g1 := bk_g1.ext y
  replace bk_g2 := bk_g2.ext y
  replace o_w0 := o_w0.ext y
  replace o_w1 := o_w1.ext y
  replace o_w2 := o_w2.ext y
  replace o_x0 := o_x0.ext y
  replace o_x1 := o_x1.ext y
  replace o_g0 := o_g0.ext y
  replace o_g1 := o_g1.ext y
  replace o_g2 := o_g2.ext y
  have ll48 := y.le
  refine ⟨_, rfl, ifD (fun h => absurd h (by omega)) (fun _ => ?_)⟩
  refine ⟨_, _, _, _, _, bk_g1.loadA0 (by kernel_rfl), ?_⟩
  refine Ret.at (laws_heldMoney_c o_g1.reps co_g1 (by omega) (by omega)) ?_
  rintro v W46 ⟨hv, y⟩
  subst hv
  replace x := x.trans y
  replace bk_a0 := bk_a0.ext y
  replace bk_a1 := bk_a1.ext y
  replace bk_w0 := bk_w0.ext y
  replace bk_w1 := bk_w1.ext y
  replace bk_w2 := bk_w2.ext y
  replace bk_x0 := bk_x0.ext y
  replace bk_x1 := bk_x1.ext y
  replace bk_g0 := bk_g0.ext y
  replace bk_g1 := bk_g1.ext y
  replace bk_g2 := bk_g2.ext y
  replace o_w0 := o_w0.ext y
  replace o_w1 := o_w1.ext y
  replace o_w2 := o_w2.ext y
  replace o_x0 := o_x0.ext y
  replace o_x1 := o_x1.ext y
  replace o_g0 := o_g0.ext y
  replace o_g1 := o_g1.ext y
  replace o_g2 := o_g2.ext y
  have ll49 := y.le
  refine ⟨_, rfl, ifD (fun h => absurd h (by omega)) (fun _ => ?_)⟩
  refine ⟨_, _, _, _, _, _, _, bk_g2.loadA0 (by kernel_rfl), ?_⟩
  refine Ret.at (laws_heldRat_c o_g2.reps co_g2 (by omega) (by omega)) ?_
  rintro v W47 ⟨hv, y⟩
  subst hv
  replace x := x.trans y
  replace bk_a0 := bk_a0.ext y
  replace bk_a1 := bk_a1.ext y
  replace bk_w0 := bk_w0.ext y
  replace bk_w1 := bk_w1.ext y
  replace bk_w2 := bk_w2.ext y
  replace bk_x0 := bk_x0.ext y
  replace bk_x1 := bk_x1.ext y
  replace bk_g0 := bk_g0.ext y
  replace bk_g1 := bk_g1.ext y
  replace bk_g2 := bk_g2.ext y
  replace o_w0 := o_w0.ext y
  replace o_w1 := o_w1.ext y
  replace o_w2 := o_w2.ext y
  replace o_x0 := o_x0.ext y
  replace o_x1 := o_x1.ext y
  replace o_g0 := o_g0.ext y
  replace o_g1 := o_g1.ext y
  replace o_g2 := o_g2.ext y
  have ll50 := y.le
  refine ⟨_, rfl, ifD (fun h => absurd h (by omega)) (fun _ => ?_)⟩
  refine ifD (fun h => absurd rfl h) (fun _ => ?_)
  have y := Ext.drew W47
  replace x := x.trans y
  replace bk_a0 := bk_a0.ext y
  replace bk_a1 := bk_a1.ext y
  replace bk_w0 := bk_w0.ext y
  replace bk_w1 := bk_w1.ext y
  replace bk_w2 := bk_w2.ext y
  replace bk_x0 := bk_x0.ext y
  replace bk_x1 := bk_x1.ext y
  replace bk_g0 := bk_g0.ext y
  replace bk_g1 := bk_g1.ext y
  replace bk_g2 := bk_g2.ext y
  replace o_w0 := o_w0.ext y
  replace o_w1 := o_w1.ext y
  replace o_w2 := o_w2.ext y
  replace o_x0 := o_x0.ext y
  replace o_x1 := o_x1.ext y
  replace o_g0 := o_g0.ext y
  replace o_g1 := o_g1.ext y
  replace o_g2 := o_g2.ext y
  have ll51 := y.le
  have bd0 := bk_a0
  have bd1 := bk_a1
  refine ⟨_, _, _, _, _, fun W' hW => (bd0.ext hW).loadA0 (by kernel_rfl), ?_⟩
  intro ssx W48 F
  have S := FlS.first F rfl
  have y := F.ext
  replace x := x.trans y
  replace bk_a0 := bk_a0.ext y
  replace bk_a1 := bk_a1.ext y
  replace bk_w0 := bk_w0.ext y
  replace bk_w1 := bk_w1.ext y
  replace bk_w2 := bk_w2.ext y
  replace bk_x0 := bk_x0.ext y
  replace bk_x1 := bk_x1.ext y
  replace bk_g0 := bk_g0.ext y
  replace bk_g1 := bk_g1.ext y
  replace bk_g2 := bk_g2.ext y
  replace o_w0 := o_w0.ext y
  replace o_w1 := o_w1.ext y
  replace o_w2 := o_w2.ext y
  replace o_x0 := o_x0.ext y
  replace o_x1 := o_x1.ext y
  replace o_g0 := o_g0.ext y
  replace o_g1 := o_g1.ext y
  replace o_g2 := o_g2.ext y
  have ll52 := y.le
  refine Ret.at (laws_toMoney_c (hr0.ext x) rfl (by simp only [bulks, D0.bulk, List.map_cons, List.map_nil, List.sum_cons, List.sum_nil]; omega)) ?_
  rintro v W49 ⟨vs, f_h0, hv, o_h0, nd_h0, y⟩
  subst hv
  obtain ⟨th00, th01, th02p, th02n, th02c, th02z, rfl, hdh0, th02h⟩ := open_Money o_h0.reps rfl
  have lt_o_h0 : ∀ k ∈ f_h0, W48.heap.size ≤ k ∧ k < W49.heap.size := o_h0.lt
  have yy := y
  replace x := x.trans y
  replace bk_a0 := bk_a0.ext y
  replace bk_a1 := bk_a1.ext y
  replace bk_w0 := bk_w0.ext y
  replace bk_w1 := bk_w1.ext y
  replace bk_w2 := bk_w2.ext y
  replace bk_x0 := bk_x0.ext y
  replace bk_x1 := bk_x1.ext y
  replace bk_g0 := bk_g0.ext y
  replace bk_g1 := bk_g1.ext y
  replace bk_g2 := bk_g2.ext y
  replace o_w0 := o_w0.ext y
  replace o_w1 := o_w1.ext y
  replace o_w2 := o_w2.ext y
  replace o_x0 := o_x0.ext y
  replace o_x1 := o_x1.ext y
  replace o_g0 := o_g0.ext y
  replace o_g1 := o_g1.ext y
  replace o_g2 := o_g2.ext y
  replace S := S.ext y
  have ll53 := y.le
  refine ⟨_, _, _, _, _, rfl, yy, ?_⟩
  refine ⟨_, _, _, _, _, fun W' hW => (bd1.ext hW).loadA0 (by kernel_rfl), ?_⟩
  intro ssx W50 F
  have S := S.step F
  have y := F.ext
  replace x := x.trans y
  replace bk_a0 := bk_a0.ext y
  replace bk_a1 := bk_a1.ext y
  replace bk_w0 := bk_w0.ext y
  replace bk_w1 := bk_w1.ext y
  replace bk_w2 := bk_w2.ext y
  replace bk_x0 := bk_x0.ext y
  replace bk_x1 := bk_x1.ext y
  replace bk_g0 := bk_g0.ext y
  replace bk_g1 := bk_g1.ext y
  replace bk_g2 := bk_g2.ext y
  replace o_w0 := o_w0.ext y
  replace o_w1 := o_w1.ext y
  replace o_w2 := o_w2.ext y
  replace o_x0 := o_x0.ext y
  replace o_x1 := o_x1.ext y
  replace o_g0 := o_g0.ext y
  replace o_g1 := o_g1.ext y
  replace o_g2 := o_g2.ext y
  replace o_h0 := o_h0.ext y
  have ll54 := y.le
  refine Ret.at (laws_toDec_c (hr1.ext x) rfl (by simp only [bulks, D0.bulk, List.map_cons, List.map_nil, List.sum_cons, List.sum_nil]; omega)) ?_
  rintro v W51 ⟨vs, f_h1, hv, o_h1, nd_h1, y⟩
  subst hv
  obtain ⟨th10, th11p, th11n, th11c, th11z, th12, rfl, hdh1, th11h⟩ := open_Dec o_h1.reps rfl
  have lt_o_h1 : ∀ k ∈ f_h1, W50.heap.size ≤ k ∧ k < W51.heap.size := o_h1.lt
  have yy := y
  replace x := x.trans y
  replace bk_a0 := bk_a0.ext y
  replace bk_a1 := bk_a1.ext y
  replace bk_w0 := bk_w0.ext y
  replace bk_w1 := bk_w1.ext y
  replace bk_w2 := bk_w2.ext y
  replace bk_x0 := bk_x0.ext y
  replace bk_x1 := bk_x1.ext y
  replace bk_g0 := bk_g0.ext y
  replace bk_g1 := bk_g1.ext y
  replace bk_g2 := bk_g2.ext y
  replace o_w0 := o_w0.ext y
  replace o_w1 := o_w1.ext y
  replace o_w2 := o_w2.ext y
  replace o_x0 := o_x0.ext y
  replace o_x1 := o_x1.ext y
  replace o_g0 := o_g0.ext y
  replace o_g1 := o_g1.ext y
  replace o_g2 := o_g2.ext y
  replace o_h0 := o_h0.ext y
  replace S := S.ext y
  have ll55 := y.le
  refine ⟨_, _, _, _, _, rfl, ?_⟩
  intro ssx W52 F
  have S := S.step F
  have y := F.ext
  replace x := x.trans y
  replace bk_a0 := bk_a0.ext y
  replace bk_a1 := bk_a1.ext y
  replace bk_w0 := bk_w0.ext y
  replace bk_w1 := bk_w1.ext y
  replace bk_w2 := bk_w2.ext y
  replace bk_x0 := bk_x0.ext y
  replace bk_x1 := bk_x1.ext y
  replace bk_g0 := bk_g0.ext y
  replace bk_g1 := bk_g1.ext y
  replace bk_g2 := bk_g2.ext y
  replace o_w0 := o_w0.ext y
  replace o_w1 := o_w1.ext y
  replace o_w2 := o_w2.ext y
  replace o_x0 := o_x0.ext y
  replace o_x1 := o_x1.ext y
  replace o_g0 := o_g0.ext y
  replace o_g1 := o_g1.ext y
  replace o_g2 := o_g2.ext y
  replace o_h0 := o_h0.ext y
  replace o_h1 := o_h1.ext y
  have ll56 := y.le
  have Sc := S
  refine Ret.at (impl_TaxIn_c o_h0.reps rfl o_h1.reps rfl a2 (ht.ext x)) ?_
  rintro v W53 ⟨vs_h0, f_h0, vs_h1, f_h1, vs_h2, f_h2, hv, o_h0, nd_h0, co_h0, ct_h0, o_h1, nd_h1, co_h1, ct_h1, o_h2, nd_h2, co_h2, ct_h2, dis_h_0_1, dis_h_0_2, dis_h_1_2, y⟩
  subst hv
  have tn_h0 := tcnts_nn ct_h0
  have lt_o_h0 : ∀ k ∈ f_h0, W52.heap.size ≤ k ∧ k < W53.heap.size := o_h0.lt
  have tn_h1 := tcnts_nn ct_h1
  have lt_o_h1 : ∀ k ∈ f_h1, W52.heap.size ≤ k ∧ k < W53.heap.size := o_h1.lt
  have tn_h2 := tcnts_nn ct_h2
  have lt_o_h2 : ∀ k ∈ f_h2, W52.heap.size ≤ k ∧ k < W53.heap.size := o_h2.lt
  replace x := x.trans y
  replace bk_a0 := bk_a0.ext y
  replace bk_a1 := bk_a1.ext y
  replace bk_w0 := bk_w0.ext y
  replace bk_w1 := bk_w1.ext y
  replace bk_w2 := bk_w2.ext y
  replace bk_x0 := bk_x0.ext y
  replace bk_x1 := bk_x1.ext y
  replace bk_g0 := bk_g0.ext y
  replace bk_g1 := bk_g1.ext y
  replace bk_g2 := bk_g2.ext y
  replace o_w0 := o_w0.ext y
  replace o_w1 := o_w1.ext y
  replace o_w2 := o_w2.ext y
  replace o_x0 := o_x0.ext y
  replace o_x1 := o_x1.ext y
  replace o_g0 := o_g0.ext y
  replace o_g1 := o_g1.ext y
  replace o_g2 := o_g2.ext y
  replace S := S.ext y
  have ll57 := y.le
  obtain ⟨gh00, gh01, gh02p, gh02n, gh02c, gh02z, rfl, hd_h0, gh02h⟩ := open_Money o_h0.reps co_h0
  obtain ⟨gh10, gh11, gh12p, gh12n, gh12c, gh12z, rfl, hd_h1, gh12h⟩ := open_Money o_h1.reps co_h1
  obtain ⟨gh20, gh21p, gh21n, gh21c, gh21z, gh22p, gh22n, gh22c, gh22z, rfl, hd_h2, gh21h, gh22h⟩ := open_Rat o_h2.reps co_h2
  refine ⟨_, _, _, _, _, _, _, _, _, _, _, _, _, _, _, _, _, _, rfl, ?_⟩
  intro ssx W54 r_h0 F G_h0
  have S := S.step F
  have y := F.ext
  replace x := x.trans y
  replace bk_a0 := bk_a0.ext y
  replace bk_a1 := bk_a1.ext y
  replace bk_w0 := bk_w0.ext y
  replace bk_w1 := bk_w1.ext y
  replace bk_w2 := bk_w2.ext y
  replace bk_x0 := bk_x0.ext y
  replace bk_x1 := bk_x1.ext y
  replace bk_g0 := bk_g0.ext y
  replace bk_g1 := bk_g1.ext y
  replace bk_g2 := bk_g2.ext y
  replace o_w0 := o_w0.ext y
  replace o_w1 := o_w1.ext y
  replace o_w2 := o_w2.ext y
  replace o_x0 := o_x0.ext y
  replace o_x1 := o_x1.ext y
  replace o_g0 := o_g0.ext y
  replace o_g1 := o_g1.ext y
  replace o_g2 := o_g2.ext y
  replace o_h0 := o_h0.ext y
  replace o_h1 := o_h1.ext y
  replace o_h2 := o_h2.ext y
  have ll58 := y.le
  have FF := F
  intro ssx W55 r_h1 F G_h1
  have S := S.step F
  have y := F.ext
  replace x := x.trans y
  replace bk_a0 := bk_a0.ext y
  replace bk_a1 := bk_a1.ext y
  replace bk_w0 := bk_w0.ext y
  replace bk_w1 := bk_w1.ext y
  replace bk_w2 := bk_w2.ext y
  replace bk_x0 := bk_x0.ext y
  replace bk_x1 := bk_x1.ext y
  replace bk_g0 := bk_g0.ext y
  replace bk_g1 := bk_g1.ext y
  replace bk_g2 := bk_g2.ext y
  replace o_w0 := o_w0.ext y
  replace o_w1 := o_w1.ext y
  replace o_w2 := o_w2.ext y
  replace o_x0 := o_x0.ext y
  replace o_x1 := o_x1.ext y
  replace o_g0 := o_g0.ext y
  replace o_g1 := o_g1.ext y
  replace o_g2 := o_g2.ext y
  replace o_h0 := o_h0.ext y
  replace o_h1 := o_h1.ext y
  replace o_h2 := o_h2.ext y
  have ll59 := y.le
  have FF := FF.trans F
  have G_h0 := F.keeps G_h0
  intro ssx W56 r_h2 F G_h2
  have S := S.step F
  have y := F.ext
  replace x := x.trans y
  replace bk_a0 := bk_a0.ext y
  replace bk_a1 := bk_a1.ext y
  replace bk_w0 := bk_w0.ext y
  replace bk_w1 := bk_w1.ext y
  replace bk_w2 := bk_w2.ext y
  replace bk_x0 := bk_x0.ext y
  replace bk_x1 := bk_x1.ext y
  replace bk_g0 := bk_g0.ext y
  replace bk_g1 := bk_g1.ext y
  replace bk_g2 := bk_g2.ext y
  replace o_w0 := o_w0.ext y
  replace o_w1 := o_w1.ext y
  replace o_w2 := o_w2.ext y
  replace o_x0 := o_x0.ext y
  replace o_x1 := o_x1.ext y
  replace o_g0 := o_g0.ext y
  replace o_g1 := o_g1.ext y
  replace o_g2 := o_g2.ext y
  replace o_h0 := o_h0.ext y
  replace o_h1 := o_h1.ext y
  replace o_h2 := o_h2.ext y
  have ll60 := y.le
  have FF := FF.trans F
  have G_h0 := F.keeps G_h0
  have G_h1 := F.keeps G_h1
  obtain ⟨sr_h0, lr_h0, bk_h0⟩ := S.blk G_h0 rfl
  have ap_h0 := Sc.apart FF G_h0
  obtain ⟨sr_h1, lr_h1, bk_h1⟩ := S.blk G_h1 rfl
  have ap_h1 := Sc.apart FF G_h1
  obtain ⟨sr_h2, lr_h2, bk_h2⟩ := S.blk G_h2 rfl
  have ap_h2 := Sc.apart FF G_h2
  have ne_h0_h1 := S.ne G_h0 G_h1 (by decide)
  have ne_h0_h2 := S.ne G_h0 G_h2 (by decide)
  have ne_h1_h2 := S.ne G_h1 G_h2 (by decide)
  obtain ⟨W57, st, bq, ch, sz⟩ := bk_h0.storeA0 (P := P) (t := T_impl_Money) (xs := [.string gh00, .bool gh01, .slice gh02p gh02n gh02c]) (by kernel_rfl) rfl o_h0.reps.cells1
  replace x := x.chg ch (by simp; omega)
  replace bk_a0 := bk_a0.chg ch (by simp; omega)
  replace bk_a1 := bk_a1.chg ch (by simp; omega)
  replace bk_w0 := bk_w0.chg ch (by simp; omega)
  replace bk_w1 := bk_w1.chg ch (by simp; omega)
  replace bk_w2 := bk_w2.chg ch (by simp; omega)
  replace bk_x0 := bk_x0.chg ch (by simp; omega)
  replace bk_x1 := bk_x1.chg ch (by simp; omega)
  replace bk_g0 := bk_g0.chg ch (by simp; omega)
  replace bk_g1 := bk_g1.chg ch (by simp; omega)
  replace bk_g2 := bk_g2.chg ch (by simp; omega)
  replace bk_h1 := bk_h1.chg ch (by simp; omega)
  replace bk_h2 := bk_h2.chg ch (by simp; omega)
  replace o_w0 := o_w0.chg ch (fun k hk hm => by have h1 := lt_o_w0 k hk; simp at hm; omega)
  replace o_w1 := o_w1.chg ch (fun k hk hm => by have h1 := lt_o_w1 k hk; simp at hm; omega)
  replace o_w2 := o_w2.chg ch (fun k hk hm => by have h1 := lt_o_w2 k hk; simp at hm; omega)
  replace o_x0 := o_x0.chg ch (fun k hk hm => by have h1 := lt_o_x0 k hk; simp at hm; omega)
  replace o_x1 := o_x1.chg ch (fun k hk hm => by have h1 := lt_o_x1 k hk; simp at hm; omega)
  replace o_g0 := o_g0.chg ch (fun k hk hm => by have h1 := lt_o_g0 k hk; simp at hm; omega)
  replace o_g1 := o_g1.chg ch (fun k hk hm => by have h1 := lt_o_g1 k hk; simp at hm; omega)
  replace o_g2 := o_g2.chg ch (fun k hk hm => by have h1 := lt_o_g2 k hk; simp at hm; omega)
  replace o_h0 := o_h0.chg ch (fun k hk hm => by have h1 := lt_o_h0 k hk; simp at hm; omega)
  replace o_h1 := o_h1.chg ch (fun k hk hm => by have h1 := lt_o_h1 k hk; simp at hm; omega)
  replace o_h2 := o_h2.chg ch (fun k hk hm => by have h1 := lt_o_h2 k hk; simp at hm; omega)
  have bk_h0 := bq; clear bq
  have ll61 := ch.size
  refine ⟨_, st, ?_⟩
  obtain ⟨W58, st, bq, ch, sz⟩ := bk_h1.storeA0 (P := P) (t := T_impl_Money) (xs := [.string gh10, .bool gh11, .slice gh12p gh12n gh12c]) (by kernel_rfl) rfl o_h1.reps.cells1
  replace x := x.chg ch (by simp; omega)
  replace bk_a0 := bk_a0.chg ch (by simp; omega)
  replace bk_a1 := bk_a1.chg ch (by simp; omega)
  replace bk_w0 := bk_w0.chg ch (by simp; omega)
  replace bk_w1 := bk_w1.chg ch (by simp; omega)
  replace bk_w2 := bk_w2.chg ch (by simp; omega)
  replace bk_x0 := bk_x0.chg ch (by simp; omega)
  replace bk_x1 := bk_x1.chg ch (by simp; omega)
  replace bk_g0 := bk_g0.chg ch (by simp; omega)
  replace bk_g1 := bk_g1.chg ch (by simp; omega)
  replace bk_g2 := bk_g2.chg ch (by simp; omega)
  replace bk_h0 := bk_h0.chg ch (by simp; omega)
  replace bk_h2 := bk_h2.chg ch (by simp; omega)
  replace o_w0 := o_w0.chg ch (fun k hk hm => by have h1 := lt_o_w0 k hk; simp at hm; omega)
  replace o_w1 := o_w1.chg ch (fun k hk hm => by have h1 := lt_o_w1 k hk; simp at hm; omega)
  replace o_w2 := o_w2.chg ch (fun k hk hm => by have h1 := lt_o_w2 k hk; simp at hm; omega)
  replace o_x0 := o_x0.chg ch (fun k hk hm => by have h1 := lt_o_x0 k hk; simp at hm; omega)
  replace o_x1 := o_x1.chg ch (fun k hk hm => by have h1 := lt_o_x1 k hk; simp at hm; omega)
  replace o_g0 := o_g0.chg ch (fun k hk hm => by have h1 := lt_o_g0 k hk; simp at hm; omega)
  replace o_g1 := o_g1.chg ch (fun k hk hm => by have h1 := lt_o_g1 k hk; simp at hm; omega)
  replace o_g2 := o_g2.chg ch (fun k hk hm => by have h1 := lt_o_g2 k hk; simp at hm; omega)
  replace o_h0 := o_h0.chg ch (fun k hk hm => by have h1 := lt_o_h0 k hk; simp at hm; omega)
  replace o_h1 := o_h1.chg ch (fun k hk hm => by have h1 := lt_o_h1 k hk; simp at hm; omega)
  replace o_h2 := o_h2.chg ch (fun k hk hm => by have h1 := lt_o_h2 k hk; simp at hm; omega)
  have bk_h1 := bq; clear bq
  have ll62 := ch.size
  refine ⟨_, st, ?_⟩
  obtain ⟨W59, st, bq, ch, sz⟩ := bk_h2.storeA0 (P := P) (t := T_impl_Rat) (xs := [.bool gh20, .slice gh21p gh21n gh21c, .slice gh22p gh22n gh22c]) (by kernel_rfl) rfl o_h2.reps.cells1
  replace x := x.chg ch (by simp; omega)
  replace bk_a0 := bk_a0.chg ch (by simp; omega)
  replace bk_a1 := bk_a1.chg ch (by simp; omega)
  replace bk_w0 := bk_w0.chg ch (by simp; omega)
  replace bk_w1 := bk_w1.chg ch (by simp; omega)
  replace bk_w2 := bk_w2.chg ch (by simp; omega)
  replace bk_x0 := bk_x0.chg ch (by simp; omega)
  replace bk_x1 := bk_x1.chg ch (by simp; omega)
  replace bk_g0 := bk_g0.chg ch (by simp; omega)
  replace bk_g1 := bk_g1.chg ch (by simp; omega)
  replace bk_g2 := bk_g2.chg ch (by simp; omega)
  replace bk_h0 := bk_h0.chg ch (by simp; omega)
  replace bk_h1 := bk_h1.chg ch (by simp; omega)
  replace o_w0 := o_w0.chg ch (fun k hk hm => by have h1 := lt_o_w0 k hk; simp at hm; omega)
  replace o_w1 := o_w1.chg ch (fun k hk hm => by have h1 := lt_o_w1 k hk; simp at hm; omega)
  replace o_w2 := o_w2.chg ch (fun k hk hm => by have h1 := lt_o_w2 k hk; simp at hm; omega)
  replace o_x0 := o_x0.chg ch (fun k hk hm => by have h1 := lt_o_x0 k hk; simp at hm; omega)
  replace o_x1 := o_x1.chg ch (fun k hk hm => by have h1 := lt_o_x1 k hk; simp at hm; omega)
  replace o_g0 := o_g0.chg ch (fun k hk hm => by have h1 := lt_o_g0 k hk; simp at hm; omega)
  replace o_g1 := o_g1.chg ch (fun k hk hm => by have h1 := lt_o_g1 k hk; simp at hm; omega)
  replace o_g2 := o_g2.chg ch (fun k hk hm => by have h1 := lt_o_g2 k hk; simp at hm; omega)
  replace o_h0 := o_h0.chg ch (fun k hk hm => by have h1 := lt_o_h0 k hk; simp at hm; omega)
  replace o_h1 := o_h1.chg ch (fun k hk hm => by have h1 := lt_o_h1 k hk; simp at hm; omega)
  replace o_h2 := o_h2.chg ch (fun k hk hm => by have h1 := lt_o_h2 k hk; simp at hm; omega)
  have bk_h2 := bq; clear bq
  have ll63 := ch.size
  refine ⟨_, st, ?_⟩
  refine ⟨_, _, _, _, _, bk_h0.loadA0 (by kernel_rfl), _, _, _, _, _, bk_w0.loadA0 (by kernel_rfl), ?_⟩
  refine Ret.at (laws_eqMoney_c o_h0.reps o_w0.reps co_h0 co_w0) ?_
  rintro v W60 ⟨hv, y⟩
  subst hv
  replace x := x.trans y
  replace bk_a0 := bk_a0.ext y
  replace bk_a1 := bk_a1.ext y
  replace bk_w0 := bk_w0.ext y
  replace bk_w1 := bk_w1.ext y
  replace bk_w2 := bk_w2.ext y
  replace bk_x0 := bk_x0.ext y
  replace bk_x1 := bk_x1.ext y
  replace bk_g0 := bk_g0.ext y
  replace bk_g1 := bk_g1.ext y
  replace bk_g2 := bk_g2.ext y
  replace bk_h0 := bk_h0.ext y
  replace bk_h1 := bk_h1.ext y
  replace bk_h2 := bk_h2.ext y
  replace o_w0 := o_w0.ext y
  replace o_w1 := o_w1.ext y
  replace o_w2 := o_w2.ext y
  replace o_x0 := o_x0.ext y
  replace o_x1 := o_x1.ext y
  replace o_g0 := o_g0.ext y
  replace o_g1 := o_g1.ext y
  replace o_g2 := o_g2.ext y
  replace o_h0 := o_h0.ext y
  replace o_h1 := o_h1.ext y
  replace o_h2 := o_h2.ext y
  have ll64 := y.le
  refine ⟨_, rfl, ifN (fun h => absurd h (by simp)) (fun _ => ?_)⟩
  refine ⟨_, _, _, _, _, bk_h1.loadA0 (by kernel_rfl), _, _, _, _, _, bk_w1.loadA0 (by kernel_rfl), ?_⟩
  refine Ret.at (laws_eqMoney_c o_h1.reps o_w1.reps co_h1 co_w1) ?_
  rintro v W61 ⟨hv, y⟩
  subst hv
  replace x := x.trans y
  replace bk_a0 := bk_a0.ext y
  replace bk_a1 := bk_a1.ext y
  replace bk_w0 := bk_w0.ext y
  replace bk_w1 := bk_w1.ext y
  replace bk_w2 := bk_w2.ext y
  replace bk_x0 := bk_x0.ext y
  replace bk_x1 := bk_x1.ext y
  replace bk_g0 := bk_g0.ext y
  replace bk_g1 := bk_g1.ext y
  replace bk_g2 := bk_g2.ext y
  replace bk_h0 := bk_h0.ext y
  replace bk_h1 := bk_h1.ext y
  replace bk_h2 := bk_h2.ext y
  replace o_w0 := o_w0.ext y
  replace o_w1 := o_w1.ext y
  replace o_w2 := o_w2.ext y
  replace o_x0 := o_x0.ext y
  replace o_x1 := o_x1.ext y
  replace o_g0 := o_g0.ext y
  replace o_g1 := o_g1.ext y
  replace o_g2 := o_g2.ext y
  replace o_h0 := o_h0.ext y
  replace o_h1 := o_h1.ext y
  replace o_h2 := o_h2.ext y
  have ll65 := y.le
  refine ⟨_, rfl, ifN (fun h => absurd h (by simp)) (fun _ => ?_)⟩
  refine ⟨_, _, _, _, _, _, _, bk_h2.loadA0 (by kernel_rfl), _, _, _, _, _, _, _, bk_w2.loadA0 (by kernel_rfl), ?_⟩
  refine Ret.at (laws_eqRat_c o_h2.reps o_w2.reps co_h2 co_w2) ?_
  rintro v W62 ⟨hv, y⟩
  subst hv
  replace x := x.trans y
  replace bk_a0 := bk_a0.ext y
  replace bk_a1 := bk_a1.ext y
  replace bk_w0 := bk_w0.ext y
  replace bk_w1 := bk_w1.ext y
  replace bk_w2 := bk_w2.ext y
  replace bk_x0 := bk_x0.ext y
  replace bk_x1 := bk_x1.ext y
  replace bk_g0 := bk_g0.ext y
  replace bk_g1 := bk_g1.ext y
  replace bk_g2 := bk_g2.ext y
  replace bk_h0 := bk_h0.ext y
  replace bk_h1 := bk_h1.ext y
  replace bk_h2 := bk_h2.ext y
  replace o_w0 := o_w0.ext y
  replace o_w1 := o_w1.ext y
  replace o_w2 := o_w2.ext y
  replace o_x0 := o_x0.ext y
  replace o_x1 := o_x1.ext y
  replace o_g0 := o_g0.ext y
  replace o_g1 := o_g1.ext y
  replace o_g2 := o_g2.ext y
  replace o_h0 := o_h0.ext y
  replace o_h1 := o_h1.ext y
  replace o_h2 := o_h2.ext y
  have ll66 := y.le
  refine ⟨_, rfl, ifN (fun h => absurd h (by simp)) (fun _ => ?_)⟩
  refine ⟨fun h => absurd h (bne_no rfl), fun _ => ?_⟩
  unfold laws_FnExactTaxIn_j2
  refine ⟨_, _, _, _, _, bk_g0.loadA0 (by kernel_rfl), ?_⟩
  refine Ret.at (laws_heldMoney_c o_g0.reps co_g0 (by omega) (by omega)) ?_
  rintro v W63 ⟨hv, y⟩
  subst hv
  replace x := x.trans y
  replace bk_a0 := bk_a0.ext y
  replace bk_a1 := bk_a1.ext y
  replace bk_w0 := bk_w0.ext y
  replace bk_w1 := bk_w1.ext y
  replace bk_w2 := bk_w2.ext y
  replace bk_x0 := bk_x0.ext y
  replace bk_x1 := bk_x1.ext y
  replace bk_g0 := bk_g0.ext y
  replace bk_g1 := bk_g1.ext y
  replace bk_g2 := bk_g2.ext y
  replace bk_h0 := bk_h0.ext y
  replace bk_h1 := bk_h1.ext y
  replace bk_h2 := bk_h2.ext y
  replace o_w0 := o_w0.ext y
  replace o_w1 := o_w1.ext y
  replace o_w2 := o_w2.ext y
  replace o_x0 := o_x0.ext y
  replace o_x1 := o_x1.ext y
  replace o_g0 := o_g0.ext y
  replace o_g1 := o_g1.ext y
  replace o_g2 := o_g2.ext y
  replace o_h0 := o_h0.ext y
  replace o_h1 := o_h1.ext y
  replace o_h2 := o_h2.ext y
  have ll67 := y.le
  refine ⟨_, rfl, ifD (fun h => absurd h (by omega)) (fun _ => ?_)⟩
  refine ⟨_, _, _, _, _, bk_g1.loadA0 (by kernel_rfl), ?_⟩
  refine Ret.at (laws_heldMoney_c o_g1.reps co_g1 (by omega) (by omega)) ?_
  rintro v W64 ⟨hv, y⟩
  subst hv
  replace x := x.trans y
  replace bk_a0 := bk_a0.ext y
  replace bk_a1 := bk_a1.ext y
  replace bk_w0 := bk_w0.ext y
  replace bk_w1 := bk_w1.ext y
  replace bk_w2 := bk_w2.ext y
  replace bk_x0 := bk_x0.ext y
  replace bk_x1 := bk_x1.ext y
  replace bk_g0 := bk_g0.ext y
  replace bk_g1 := bk_g1.ext y
  replace bk_g2 := bk_g2.ext y
  replace bk_h0 := bk_h0.ext y
  replace bk_h1 := bk_h1.ext y
  replace bk_h2 := bk_h2.ext y
  replace o_w0 := o_w0.ext y
  replace o_w1 := o_w1.ext y
  replace o_w2 := o_w2.ext y
  replace o_x0 := o_x0.ext y
  replace o_x1 := o_x1.ext y
  replace o_g0 := o_g0.ext y
  replace o_g1 := o_g1.ext y
  replace o_g2 := o_g2.ext y
  replace o_h0 := o_h0.ext y
  replace o_h1 := o_h1.ext y
  replace o_h2 := o_h2.ext y
  have ll68 := y.le
  refine ⟨_, rfl, ifD (fun h => absurd h (by omega)) (fun _ => ?_)⟩
  refine ⟨_, _, _, _, _, _, _, bk_g2.loadA0 (by kernel_rfl), ?_⟩
  refine Ret.at (laws_heldRat_c o_g2.reps co_g2 (by omega) (by omega)) ?_
  rintro v W65 ⟨hv, y⟩
  subst hv
  replace x := x.trans y
  replace bk_a0 := bk_a0.ext y
  replace bk_a1 := bk_a1.ext y
  replace bk_w0 := bk_w0.ext y
  replace bk_w1 := bk_w1.ext y
  replace bk_w2 := bk_w2.ext y
  replace bk_x0 := bk_x0.ext y
  replace bk_x1 := bk_x1.ext y
  replace bk_g0 := bk_g0.ext y
  replace bk_g1 := bk_g1.ext y
  replace bk_g2 := bk_g2.ext y
  replace bk_h0 := bk_h0.ext y
  replace bk_h1 := bk_h1.ext y
  replace bk_h2 := bk_h2.ext y
  replace o_w0 := o_w0.ext y
  replace o_w1 := o_w1.ext y
  replace o_w2 := o_w2.ext y
  replace o_x0 := o_x0.ext y
  replace o_x1 := o_x1.ext y
  replace o_g0 := o_g0.ext y
  replace o_g1 := o_g1.ext y
  replace o_g2 := o_g2.ext y
  replace o_h0 := o_h0.ext y
  replace o_h1 := o_h1.ext y
  replace o_h2 := o_h2.ext y
  have ll69 := y.le
  refine ⟨_, rfl, ifD (fun h => absurd h (by omega)) (fun _ => ?_)⟩
  refine ifD (fun h => absurd rfl h) (fun _ => ?_)
  exact ⟨rfl, x⟩
end Go.Proofs.YtfemmmbkhhemaaaGreatDoor

namespace Go.Proofs.YtfemmmbkhhemaaaGreatDoor.Sx
open Go Go.RowKit Go.ChangeShapes Go.WideShapes
set_option linter.unusedVariables false
set_option linter.unusedSimpArgs false
/-- each named variable's type can be read and is a row of the table -/
def rowedV (P : Program) (ns : List String) : Bool := ns.all fun n => ((P.globalNamed n).bind (P.globals[·]?)).all fun gl => P.readableRec gl.type && decide (gl.type < P.types.size)
section
variable {H : Type} {enc : TypeId × Value → H} {P : Program}
theorem trodAll_ext (hl : laidOutB P = true) {W W' : World} (hb : Ext W W') (sp' : Nat → Bool) : ∀ {ts : List TypeId} {vs : List Value} {ds : List (DataW H)} {ps : List MemPlace},
    (∀ t ∈ ts, P.readableRec t = true ∧ t < P.types.size) → (∀ p ∈ ps, p.block < W.heap.size) → (∀ p ∈ ps, sp' p.block = true) →
    DataW.TrodAll enc P W 0 (fun _ => true) true ts vs ds ps → DataW.TrodAll enc P W' 0 sp' true ts vs ds ps
  | [], _, _, _, _, _, _, h => by
    obtain ⟨rfl, rfl, rfl⟩ := trodAll_nil h
    exact rfl
  | t :: ts, _, _, _, hr, hlt, hsp, h => by
    obtain ⟨v, vs1, d, ds1, a, b, rfl, rfl, rfl, h1, h2⟩ := trodAll_cons h
    have hrt := hr t (by simp)
    exact ⟨a, b, WideElems.Trod_stays hl hrt.1 hrt.2 h1 (fun x hx => Below.same hb (hlt x (by simp [hx]))) (fun x hx => hsp x (by simp [hx])),
      trodAll_ext hl hb sp' (fun u hu => hr u (by simp [hu])) (fun x hx => hlt x (by simp [hx])) (fun x hx => hsp x (by simp [hx])) h2, rfl⟩
theorem trodVars_sp (hl : laidOutB P = true) {W W' : World} (hb : Ext W W') (sp' : Nat → Bool) :
    ∀ {ns : List String} {gs : List (DataW H)} {ps : List MemPlace}, rowedV P ns = true → (∀ p ∈ ps, sp' p.block = true) → DataW.TrodVars enc P W (fun _ => true) ns gs ps → DataW.TrodVars enc P W' sp' ns gs ps
  | [], [], _, _, _, h => h
  | [], _ :: _, _, _, _, h => h.elim
  | _ :: _, [], _, _, _, h => h.elim
  | n :: ns, d :: ds, ps, hv, hsp, h => by
    have hlt := h.lt
    obtain ⟨g, t, cs, fuel, p, q, h1, h2, h3, h4, hs, e⟩ := h
    simp only [rowedV, List.all_cons, Bool.and_eq_true] at hv
    have ht : P.readableRec t = true ∧ t < P.types.size := by
      have := hv.1
      rw [h1] at this
      cases hg : P.globals[g]? with
      | none => rw [hg] at h2; cases h2
      | some gl =>
        rw [hg] at h2
        obtain rfl : gl.type = t := Option.some.inj h2
        simpa [hg] using this
    have hp : ∀ x ∈ p, x.block < W.heap.size := fun x hx => hlt x (by rw [e]; simp [hx])
    have h3' : W'.var? P n = some cs := by
      unfold World.var? at h3 ⊢
      rw [h1] at h3 ⊢
      simp only [Option.bind_some] at h3 ⊢
      have hg : g < W.heap.size := by
        cases hh : W.heap[g]? with
        | none => rw [hh] at h3; cases h3
        | some o => exact (Array.getElem?_eq_some_iff.1 hh).1
      rw [hb.block g hg]; exact h3
    exact ⟨g, t, cs, fuel, p, q, h1, h2, h3', DataW.trod_stays (kids_book hl ht.1) (book_sized ht.1) (fun h => by cases h) ⟨ht.2, book_self t⟩ h4 (fun x hx => Below.same hb (hp x hx)) (fun x hx => hsp x (by rw [e]; simp [hx])),
      trodVars_sp hl hb sp' (by simpa [rowedV] using hv.2) (fun x hx => hsp x (by rw [e]; simp [hx])) hs, e⟩
/-- what the row asks of a law that answered true in a world with more behind it -/
theorem post_of_ext {f : Func} {s : ChangeSpec} {apart fresh handsOn again : Bool} {W W' : World} {args : Array Value} {ds gs : List (DataW H)} {before : List MemPlace} {tb : TypeId}
    (hl : laidOutB P = true) (hpar : ∀ t ∈ f.params.toList, P.readableRec t = true ∧ t < P.types.size) (hvr : rowedV P s.vars = true)
    (hrt : f.resultTypes = #[tb]) (htb : P.underlying tb = some .bool)
    (hW : DataW.Whole enc P f.params.toList s.vars apart W args.toList ds gs before) (hx : Ext W W')
    (hfn : s.fn H (ds ++ gs) = { results := [.lit (.bool true)], args := ds, vars := gs }) :
    s.post enc P f apart fresh handsOn again W args (.bool true) W' := by
  have hW0 := hW
  have hlt : ∀ p ∈ before, p.block < W.heap.size := hW.lt
  obtain ⟨pa, pv, hA, hV, rfl, hz, hn⟩ := hW
  have hlta : ∀ p ∈ pa, p.block < W.heap.size := fun p hp => hlt p (by simp [hp])
  have hltv : ∀ p ∈ pv, p.block < W.heap.size := fun p hp => hlt p (by simp [hp])
  have hr : (Value.bool true).resultList f.resultTypes.size = [Value.bool true] := by rw [hrt]; rfl
  refine ⟨ds, gs, pa ++ pv, [], pa, pv, hW0, ?_, ?_, ?_, Below.frame hx _, fun _ => ?_⟩
  · rw [hfn, hr, hrt]
    exact trodAll_mk1 (shut_bool htb _)
  · rw [hfn]
    exact trodAll_ext hl hx _ hpar hlta (fun p hp => by simpa using hlta p hp) hA
  · rw [hfn]
    exact trodVars_sp hl hx _ hvr (fun p hp => by simpa using hltv p hp) hV
  · refine ⟨?_, (.lit (.bool true)) :: ds, gs, pa ++ pv, ⟨[] ++ pa, pv, ?_, ?_, by simp, ?_, ?_⟩, fun p hp _ => hp⟩
    · rw [hr, hrt]
      exact ok_one (f := { f with resultTypes := #[tb] }) rfl rfl (okWide_bool_mk htb _)
    · rw [hr, hrt]
      exact trodAll_append (trodAll_ext hl hx _ hpar hlta (fun _ _ => rfl) hA) (trodAll_mk1 (shut_bool htb _))
    · exact trodVars_sp hl hx _ hvr (fun _ _ => rfl) hV
    · intro b off hp
      have := hlt _ hp
      rw [Below.frozen hx (p := ⟨b, off, none⟩) this]
      exact hz b off hp
    · exact hn
end
end Go.Proofs.YtfemmmbkhhemaaaGreatDoor.Sx

namespace Go.Proofs.YtfemmmbkhhemaaaGreatDoor.Sx
open Go Go.RowKit Go.ChangeShapes Go.WideShapes
set_option linter.unusedVariables false
set_option linter.unusedSimpArgs false
/-- the cells of a struct's fields, one behind the other -/
def flatF (P : Program) (g : TypeId → Option (List C0)) : Nat → List Field → Option (List C0)
  | _, [] => some []
  | o, f :: r => match Nat.beq f.offset o, g f.type with
    | true, some a => match Nat.beq (P.cellsOf f.type) a.length, flatF P g (o + a.length) r with
      | true, some b => some (a ++ b)
      | _, _ => none
    | _, _ => none
/-- the cells of a type -/
def flatC (P : Program) : Nat → TypeId → Option (List C0)
  | 0, _ => none
  | n + 1, t => match P.underlying t with
    | some .bool => some [.bool]
    | some (.int .i64) => some [.int]
    | some .string => some [.str]
    | some (.slice e) => match P.underlying e, P.cellsOf e with
      | some (.int .i64), 1 => some [.ints]
      | _, _ => none
    | some (.struct fs) => match flatF P (flatC P n) 0 fs.toList with
      | some a => if Nat.beq (P.cellsOf t) a.length then some a else none
      | none => none
    | _ => none
section
variable {H : Type} {enc : TypeId × Value → H} {P : Program} {w : World}
theorem spot_none {a : Addr} {v : Value} (h : w.cell? a = some v) : a = ⟨a.block, a.off, none⟩ := by
  obtain ⟨b, o, spot⟩ := a
  have : spot = none := by simpa using World.cell?_spot h
  subst this; rfl
theorem ints_of_trod {t e : TypeId} {fuel : Nat} {sp : Nat → Bool} {hd : Bool} {cs : List Value} {x : DataW H × List MemPlace} (ht : P.underlying t = some (.slice e)) (he : P.underlying e = some (.int .i64)) (hc : P.cellsOf e = 1)
    (h : DataW.trod enc P w 0 sp hd fuel t cs = some x) : ∃ p n c zs, cs = [.slice p n c] ∧ IntsR w p n c zs ∧ zs.length ≤ 9223372036854775807 := by
  rcases Go.ChangeShapes.open_ints ht he hc h with ⟨rfl, _⟩ | ⟨a, len, cap, zs, rfl, _, hl, hm, hz, _, hcell, _⟩
  · exact ⟨none, 0, 0, [], rfl, ⟨rfl, Nat.le_refl _, by omega, fun h => absurd h (by omega)⟩, by simp⟩
  · have hlz : len ≤ zs.length := by rw [hz]; split <;> omega
    refine ⟨some a, len, cap, zs.take len, rfl, ⟨by simp; omega, hl, by simpa [maxLen] using hm, fun hpos => ?_⟩, by simp only [maxLen] at hm; simp; omega⟩
    have h0 := hcell 0 (by omega)
    have hs := spot_none h0
    have ha : a = ⟨a.block, a.off, none⟩ := by
      obtain ⟨b, o, s⟩ := a
      simp [Addr.add] at hs
      simp [hs]
    refine ⟨a.block, a.off, by rw [← ha], fun j v hj => ?_⟩
    simp only [List.getElem?_map, List.getElem?_take] at hj
    split at hj
    · rename_i hjl
      have hjz : j < zs.length := by omega
      have := hcell j hjz
      rw [ha, addr_add] at this
      rw [this]
      rw [List.getElem?_eq_getElem hjz] at hj
      simp at hj
      rw [← hj]
      simp [hjz]
    · simp at hj
theorem flatF_open {g : TypeId → Option (List C0)} {n : Nat} {sp : Nat → Bool} {hd : Bool}
    (ih : ∀ {t : TypeId} {ks : List C0} {cs : List Value} {x : DataW H × List MemPlace}, g t = some ks → DataW.trod enc P w 0 sp hd n t cs = some x → ∃ ds, Reps w cs ds ∧ ds.map D0.code = ks ∧ ∀ d ∈ ds, d.ok) :
    ∀ (fs : List Field) (o : Nat) (ks : List C0) (cs : List Value), flatF P g o fs = some ks → cs.length = o + ks.length →
      (∀ f ∈ fs, ∃ x, DataW.trod enc P w 0 sp hd n f.type ((cs.drop f.offset).take (P.cellsOf f.type)) = some x) → ∃ ds, Reps w (cs.drop o) ds ∧ ds.map D0.code = ks ∧ ∀ d ∈ ds, d.ok
  | [], o, ks, cs, hf, hl, _ => by
    simp only [flatF, Option.some.injEq] at hf
    subst hf
    rw [List.drop_of_length_le (by simp at hl; omega)]
    exact ⟨[], trivial, rfl, by simp⟩
  | f :: r, o, ks, cs, hf, hl, hx => by
    simp only [flatF] at hf
    split at hf
    · rename_i a h1 h2
      split at hf
      · rename_i b h3 h4
        have h1' := Nat.eq_of_beq_eq_true h1
        have h3' := Nat.eq_of_beq_eq_true h3
        cases hf
        rw [List.length_append] at hl
        obtain ⟨x, hx0⟩ := hx f (by simp)
        obtain ⟨ds, r1, c1, k1⟩ := ih h2 hx0
        obtain ⟨es, r2, c2, k2⟩ := flatF_open ih r (o + a.length) b cs h4 (by omega) (fun f' hf' => hx f' (by simp [hf']))
        refine ⟨ds ++ es, ?_, by simp [c1, c2], fun d hd => ?_⟩
        · rw [h1', h3'] at r1
          have : cs.drop o = (cs.drop o).take a.length ++ cs.drop (o + a.length) := by
            rw [← List.drop_drop, List.take_append_drop]
          rw [this]
          exact r1.append r2
        · rcases List.mem_append.1 hd with h | h
          · exact k1 d h
          · exact k2 d h
      · cases hf
    · cases hf
theorem flat_open {sp : Nat → Bool} {hd : Bool} : ∀ (m : Nat) {fuel : Nat} {t : TypeId} {ks : List C0} {cs : List Value} {x : DataW H × List MemPlace}, flatC P m t = some ks → DataW.trod enc P w 0 sp hd fuel t cs = some x →
    ∃ ds, Reps w cs ds ∧ ds.map D0.code = ks ∧ ∀ d ∈ ds, d.ok
  | 0, _, _, _, _, _, h, _ => by cases h
  | m + 1, fuel, t, ks, cs, x, h, ht => by
    simp only [flatC] at h
    split at h
    · rename_i hu
      obtain ⟨b, rfl, _⟩ := DataW.trod_bool hu ht
      cases h
      exact ⟨[.bool b], ⟨rfl, trivial⟩, rfl, by simp [D0.ok]⟩
    · rename_i hu
      obtain ⟨b, rfl, _, hw⟩ := DataW.trod_int hu ht
      cases h
      refine ⟨[.int b], ⟨rfl, trivial⟩, rfl, ?_⟩
      simp only [List.mem_singleton, forall_eq, D0.ok]
      simp [Lit.wf, IntKind.min, IntKind.max, IntKind.bits, IntKind.signed] at hw
      omega
    · rename_i hu
      obtain ⟨s, rfl, _, hw⟩ := DataW.trod_string hu ht
      cases h
      exact ⟨[.str s], ⟨rfl, trivial⟩, rfl, by simpa [D0.ok, maxLen] using hw⟩
    · rename_i e hu
      split at h
      · rename_i he hc
        cases h
        obtain ⟨p, n, c, zs, rfl, hr, hz⟩ := ints_of_trod hu he hc ht
        exact ⟨[.ints zs], ⟨⟨p, n, c, rfl, hr⟩, trivial⟩, rfl, by simpa [D0.ok] using hz⟩
      · cases h
    · rename_i fs hu
      split at h
      · rename_i a hf
        split at h
        · rename_i hsz
          cases h
          obtain ⟨xs, n, rfl, _, hlen, hxl, hfs⟩ := DataW.trod_struct hu ht
          have hsz' := Nat.eq_of_beq_eq_true hsz
          have := flatF_open (fun h1 h2 => flat_open m h1 h2) fs.toList 0 ks cs hf (by omega) (fun f hf => by
            obtain ⟨i, hi⟩ := List.getElem?_of_mem hf
            have hil : i < fs.size := by simpa using (List.getElem?_eq_some_iff.1 hi).1
            have := hfs i f (by simpa using hi)
            rw [List.getElem?_eq_getElem (by omega)] at this
            exact ⟨_, this⟩)
          simpa using this
        · cases h
      · cases h
    · cases h
end
end Go.Proofs.YtfemmmbkhhemaaaGreatDoor.Sx

namespace Go.Proofs.YtfemmmbkhhemaaaGreatDoor
open Go Go.Proofs.YtfemmmbkhhemaaaGreatDoor.Sx
set_option linter.unusedVariables false
set_option linter.unusedSimpArgs false
def curData {H : Type} (r : CurRow) : DataW H := .agg [.lit (.string r.1.data.toList), .lit (.string r.2.1.data.toList), .lit (.int .i64 r.2.2.1), .lit (.int .i64 r.2.2.2)]
theorem bytes_eq {a b : ByteArray} (h : a.data.toList = b.data.toList) : a = b := by
  obtain ⟨⟨x⟩⟩ := a; obtain ⟨⟨y⟩⟩ := b
  simp at h; subst h; rfl
set_option maxRecDepth 100000 in
theorem cur_cells {H : Type} {enc : TypeId × Value → H} {w : World} {sp : Nat → Bool} {hd : Bool} {fuel : Nat} {cs : List Value} {r : CurRow} {p : List MemPlace}
    (h : DataW.trod enc P w 0 sp hd fuel T_impl_currency cs = some (curData r, p)) : cs = curCells r := by
  obtain ⟨fs, hu, hsz, ⟨f0, e0, t0, o0⟩, ⟨f1, e1, t1, o1⟩, ⟨f2, e2, t2, o2⟩, ⟨f3, e3, t3, o3⟩⟩ := cur_fields
  have hu : P.underlying T_impl_currency = some (.struct fs) := hu
  have hs : P.underlying T_string = some .string := by kernel_rfl
  have hi : P.underlying T_int = some (.int .i64) := by kernel_rfl
  have cS : P.cellsOf T_string = 1 := by kernel_rfl
  have cI : P.cellsOf T_int = 1 := by kernel_rfl
  have cC : P.cellsOf T_impl_currency = 4 := by kernel_rfl
  obtain ⟨xs, n, rfl, hx, hlen, hxl, hf⟩ := DataW.trod_struct hu h
  rw [cC] at hlen
  rw [hsz] at hxl
  have h0 := hf 0 f0 e0; have h1 := hf 1 f1 e1; have h2 := hf 2 f2 e2; have h3 := hf 3 f3 e3
  rw [t0, o0, cS] at h0; rw [t1, o1, cS] at h1; rw [t2, o2, cI] at h2; rw [t3, o3, cI] at h3
  match cs, hlen, xs, hxl, hx, h0, h1, h2, h3 with
  | [c0, c1, c2, c3], _, [x0, x1, x2, x3], _, hx, h0, h1, h2, h3 =>
    simp only [List.drop_succ_cons, List.drop_zero, List.take_succ_cons, List.take_zero, List.getElem?_cons_zero, List.getElem?_cons_succ] at h0 h1 h2 h3
    obtain ⟨s0, a0, b0, _⟩ := DataW.trod_string hs h0
    obtain ⟨s1, a1, b1, _⟩ := DataW.trod_string hs h1
    obtain ⟨z2, a2, b2, _⟩ := DataW.trod_int hi h2
    obtain ⟨z3, a3, b3, _⟩ := DataW.trod_int hi h3
    simp only [Prod.mk.injEq, curData, DataW.agg.injEq, List.map_cons, List.map_nil, List.cons.injEq, b0, b1, b2, b3, DataW.lit.injEq, Lit.string.injEq, Lit.int.injEq, true_and, and_true] at hx
    simp only [List.cons.injEq, and_true] at a0 a1 a2 a3
    obtain ⟨⟨q0, q1, q2, q3⟩, _⟩ := hx
    rw [a0, a1, a2, a3, ← bytes_eq q0, ← bytes_eq q1, ← q2, ← q3]
    rfl
theorem flat_of_rows : ∀ (l : List CurRow) (cs : List Value), cs.length = l.length * 4 → (∀ i (hi : i < l.length), (cs.drop (i * 4)).take 4 = curCells (l[i]'hi)) → cs = l.flatMap curCells
  | [], cs, h, _ => by simpa using h
  | r :: l, cs, h, hr => by
    have h0 := hr 0 (by simp)
    simp only [Nat.zero_mul, List.drop_zero, List.getElem_cons_zero] at h0
    rw [List.flatMap_cons, ← h0, ← flat_of_rows l (cs.drop 4) (by simp at h ⊢; omega) (fun i hi => by
      have := hr (i + 1) (by simpa using hi)
      rw [List.drop_drop, show 4 + i * 4 = (i + 1) * 4 by omega]
      simpa using this), List.take_append_drop]
def curVar : String := "loop.example/g00793/impl.currencies"
set_option maxRecDepth 100000 in
theorem tab_of_head {W : World} {rest : List (String × DataW Unit)} (h : laidMet P ((curVar, Rows.laid_loop_example_g00793_impl_currencies) :: rest) W) : Tab W := by
  obtain ⟨ps, ⟨g, t, cs, fuel, p, q, hg, ht, hvar, hd, _, _⟩, _⟩ := h
  have hg0 : P.globalNamed curVar = some 0 := by kernel_rfl
  have ht0 : (P.globals[0]?).map (·.type) = some T_20_impl_currency := by kernel_rfl
  obtain rfl := Option.some.inj (hg0.symm.trans hg)
  obtain rfl := Option.some.inj (ht0.symm.trans ht)
  have hu : P.underlying T_20_impl_currency = some (.array 20 T_impl_currency) := und_T_20_impl_currency
  have cC : P.cellsOf T_impl_currency = 4 := by kernel_rfl
  have cA : P.cellsOf T_20_impl_currency = 80 := by kernel_rfl
  obtain ⟨xs, m, rfl, hx, hlen, hxl, hf⟩ := DataW.trod_array hu hd
  rw [cA] at hlen
  have hdat : (Rows.laid_loop_example_g00793_impl_currencies : DataW Unit) = .agg (implTab.map curData) := by rfl
  rw [hdat] at hx
  simp only [Prod.mk.injEq, DataW.agg.injEq] at hx
  have hl := impl_length
  have hcs : cs.toList = implTab.flatMap curCells := by
    refine flat_of_rows implTab _ (by omega) fun i hi => ?_
    have h1 := hf i (by omega)
    rw [cC] at h1
    have h2 : (xs.map (·.1))[i]? = some (curData (implTab[i]'hi)) := by rw [← hx.1]; simp [hi]
    rw [List.getElem?_map] at h2
    cases h3 : xs[i]? with
    | none => rw [h3] at h2; cases h2
    | some x =>
      rw [h3] at h1 h2
      simp only [Option.map_some, Option.some.injEq] at h2
      obtain ⟨d, pp⟩ := x
      simp only at h2
      subst h2
      exact cur_cells h1
  intro i v hv
  have := World.var?_cell hg0 hvar i
  rw [Nat.zero_add, this, ← hv, ← hcs]
  simp
theorem tab_of_laid {W : World} (h : laidMetH P [(curVar, Rows.laid_loop_example_g00793_impl_currencies)] W) : Tab W := tab_of_head (rest := []) h
/-- a world for the witness: the settled one, the table laid in its variable -/
noncomputable def laidWorld (os : Os) (args : Array Value) : World :=
  { World.holding P os ⟨#[], args, []⟩ with heap := (World.holding P os ⟨#[], args, []⟩).heap.modify 0 fun
      | .cells _ t frozen => .cells ⟨implTab.flatMap curCells⟩ t frozen
      | o => o }
theorem trodVars_one {H : Type} {enc : TypeId × Value → H} {w : World} {sp : Nat → Bool} {n : String} {gs : List (DataW H)} {ps : List MemPlace} (h : DataW.TrodVars enc P w sp [n] gs ps) : ∃ g, gs = [g] := by
  match gs, h with
  | [g], _ => exact ⟨g, rfl⟩
  | g :: g2 :: r, h =>
    obtain ⟨_, _, _, _, _, _, _, _, _, _, h2, _⟩ := h
    exact h2.elim
end Go.Proofs.YtfemmmbkhhemaaaGreatDoor
