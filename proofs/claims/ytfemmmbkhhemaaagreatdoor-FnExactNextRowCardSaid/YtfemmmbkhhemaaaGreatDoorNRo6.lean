/-
  Parts of the proof of nextRow_holds: CRatA, CRatB, CRestsNeg, CRatC, CRoundA, CRoundB, CRatM, CMoneyAS, CTaxRateOk, CRatMoney, CPercentL, CTaxOn, CBalanceOf.
  Conditions: none.
-/
import Derived.Test.YtfemmmbkhhemaaaGreatDoorNRo5

namespace Go.Proofs.YtfemmmbkhhemaaaGreatDoor
open Go Go.Proofs.YtfemmmbkhhemaaaGreatDoor.Sx
set_option linter.unusedVariables false
set_option linter.unusedSimpArgs false
/-- a struct of one's own stored into an older block, and read again -/
theorem agg_end {t : TypeId} {w W : World} {r : Nat} {e : TypeId} {old xs : List Value} {d : List D0} {f : List Nat} {B : Nat} (hb : Blk W r e old) (X : Ext w W) (hr : w.heap.size ≤ r)
    (ho : Owns W B xs d f) (ht : aggT P t xs.length = true) (hlen : xs.length = old.length) (hrB : r < B) (hwB : w.heap.size ≤ B) :
    ∃ W', Stores P t ⟨r, 0, none⟩ (.agg ⟨xs⟩) W W' ∧ Loads P t ⟨r, 0, none⟩ (.agg ⟨xs⟩) W' ∧ Owns W' w.heap.size xs d f ∧ Ext w W' ∧ Chg [r] W W' ∧ Blk W' r e xs := by
  obtain ⟨W', st, hb', ch, _⟩ := hb.storeA0 (P := P) (t := t) (xs := xs) ht hlen ho.reps.cells1
  exact ⟨W', st, hb'.loadA0 ht, (ho.chg1 ch hrB).mono hwB, X.chg ch (by simp; exact hr), ch, hb'⟩
theorem own_rat0 (W : World) (B : Nat) : Owns W B [.bool false, .slice none 0 0, .slice none 0 0] rat0 [] :=
  Owns.append (Owns.bool W B false) (Owns.append (Owns.ints (zs := []) (Own.nil W B T_int 1)) (Owns.ints (zs := []) (Own.nil W B T_int 1)))
theorem own_sgn0 (W : World) (B : Nat) : Owns W B [.bool false, .slice none 0 0] (enc 0) [] := by
  rw [enc0]
  exact Owns.append (Owns.bool W B false) (Owns.ints (zs := []) (Own.nil W B T_int 1))
theorem redR_no {n : Int} {d : Nat} (h : redOk n d = false) : redR n d = rat0 := by rw [redR, h]; rfl
theorem redR_yes {n : Int} {d : Nat} (h : redOk n d = true) : redR n d = rmk (redN n d) (redD n d) := by rw [redR, if_pos h]
/-- an owned fraction out of its two parts -/
theorem own_rmk {W : World} {B : Nat} {b : Bool} {p q : Option Addr} {n c m c2 : Nat} {N : Int} {D : Nat} {f : List Nat} (h : Owns W B [.bool b, .slice p n c] (enc N) f) (k : Own W B T_int 1 q m c2 ((digs D).map (Value.int .i64))) : Owns W B [.bool b, .slice p n c, .slice q m c2] (rmk N D) (f ++ (q.map (·.block)).toList) := by
  rw [rmk_enc]; exact Owns.append h (Owns.ints k)
theorem impl_reduce_c {w : World} {xs : List Value} {n : Int} {d : Nat} {p : Option Addr} {m c : Nat} (h : Reps w xs (enc n)) (k : IntsR w p m c (digs d)) (hd : 0 < d) (hl : (digs n.natAbs).length ≤ 1000) (hm : m ≤ 1000) :
    Ret P n_impl_reduce [.agg ⟨xs⟩, .slice p m c] w fun v w' => ∃ vs f, v = .tuple #[.agg ⟨vs⟩, .bool (redOk n d)] ∧ Owns w' w.heap.size vs (redR n d) f ∧ f.Nodup ∧ Ext w w' := by
  obtain ⟨a0, ap, an, ac, az, rfl, hda, ha⟩ := open_Signed h (enc_code _)
  simp only [enc, List.cons.injEq, D0.bool.injEq, D0.ints.injEq, and_true] at hda
  obtain ⟨rfl, rfl⟩ := hda
  have hla := ha.1; have hlk := k.1
  refine impl_reduce_ret ?_
  unfold impl_reduce
  intro r w1 hn1 r1 w2 hn2
  have e1 := hn1.r_eq; have e2 := hn2.r_eq; have z1 := hn1.size; have z2 := hn2.size
  have X := hn1.ext.trans hn2.ext
  have q0 := hn1.blk.ext hn2.ext
  refine ⟨_, _, _, q0.loadAt 1 rfl (by kernel_rfl) rfl, ?_⟩
  refine Ret.at (impl_natGcd_c (ha.ext X) (k.ext X) (by omega) (by omega)) ?_
  rintro v w3 ⟨p3, n3, c3, hv, og, y3⟩
  subst hv
  have G := og.ints
  have gpos : 0 < Nat.gcd n.natAbs d := gcd_pos_right hd
  have lg := G.1
  have hg3 : 0 < n3 := by have := digs_pos_len.2 (show Nat.gcd n.natAbs d ≠ 0 by omega); omega
  have hg4 : n3 ≤ 1000 := by have := digs_mono_len (Nat.le_of_dvd hd (Nat.gcd_dvd_right n.natAbs d)); omega
  refine ⟨_, _, _, rfl, _, _, _, (q0.ext y3).loadAt 1 rfl (by kernel_rfl) rfl, ?_⟩
  refine Ret.at (impl_natDiv_c (ha.ext (X.trans y3)) G (digs_canon _) (digs_canon _) hg3 (by omega) (by omega)) ?_
  rintro v w4 ⟨p4, n4, c4, p5, n5, c5, hv, o4, _, _, y4⟩
  subst hv
  rw [val_div] at o4
  refine ⟨_, _, _, _, _, _, rfl, ?_⟩
  refine Ret.at (impl_natDiv_c (k.ext ((X.trans y3).trans y4)) (G.ext y4) (digs_canon _) (digs_canon _) hg3 (by omega) (by omega)) ?_
  rintro v w5 ⟨p6, n6, c6, p7, n7, c7, hv, o6, _, _, y5⟩
  subst hv
  rw [val_div] at o6
  have l4 := o4.ints.1; have l6 := o6.ints.1
  have Y := y3.trans (y4.trans y5)
  have q0 := q0.ext Y; have q1 := hn2.blk.ext Y
  have ly3 := y3.le; have ly4 := y4.le; have ly5 := y5.le
  have hok : redOk n d = (decide (n4 ≤ 18) && decide (n6 ≤ 18)) := by rw [redOk, l4, l6]
  have bad : redOk n d = false → ∃ W', Stores P T_impl_Rat ⟨r1, 0, none⟩ (.agg ⟨[.bool false, .slice none 0 0, .slice none 0 0]⟩) w5 W' ∧ Loads P T_impl_Rat ⟨r1, 0, none⟩ (.agg ⟨[.bool false, .slice none 0 0, .slice none 0 0]⟩) W' ∧ Owns W' w.heap.size [.bool false, .slice none 0 0, .slice none 0 0] (redR n d) [] ∧ Ext w W' := fun hno => by
    obtain ⟨W', st, ld, ow, xx, _, _⟩ := agg_end (t := T_impl_Rat) q1 (X.trans Y) (by omega) (own_rat0 w5 (r1 + 1)) (by kernel_rfl) rfl (by omega) (by omega)
    exact ⟨W', st, ld, by rw [redR_no hno]; exact ow, xx⟩
  refine ⟨_, _, _, _, _, _, rfl, ifD (fun h4 => ifT ?_) (fun h4 => ifD (fun h6 => ?_) (fun h6 => ?_))⟩
  · have hno : redOk n d = false := by rw [hok, decide_eq_false (by omega)]; rfl
    obtain ⟨W', st, ld, ow, xx⟩ := bad hno
    exact ⟨W', st, _, _, _, _, _, _, _, ld, _, [], by rw [hno], ow, List.nodup_nil, xx⟩
  · have hno : redOk n d = false := by rw [hok, decide_eq_false (show ¬ n6 ≤ 18 by omega), Bool.and_false]
    obtain ⟨W', st, ld, ow, xx⟩ := bad hno
    exact ⟨W', st, _, _, _, _, _, _, _, ld, _, [], by rw [hno], ow, List.nodup_nil, xx⟩
  · have hyes : redOk n d = true := by rw [hok, decide_eq_true (show n4 ≤ 18 by omega), decide_eq_true (show n6 ≤ 18 by omega)]; rfl
    refine ⟨_, q0.loadAt 0 rfl (by kernel_rfl) rfl, ?_⟩
    refine Ret.at (impl_signed_c (neg := decide (n < 0)) (o4.ext y5).ints.1) ?_
    rintro v w6 ⟨hv, y6⟩
    subst hv
    have ho : Owns w6 w3.heap.size [.bool (decide (n < 0) && !(digs (n.natAbs / Nat.gcd n.natAbs d)).isEmpty), .slice p4 n4 c4] (enc (redN n d)) (p4.map (·.block)).toList := by
      rw [enc_redN]
      exact Owns.int2 ((o4.ext y5).ext y6)
    have hr := own_rmk ho ((o6.mono (show w3.heap.size ≤ w4.heap.size by omega)).ext y6)
    obtain ⟨W', st, ld, ow, xx, _, _⟩ := agg_end (t := T_impl_Rat) (q1.ext y6) ((X.trans Y).trans y6) (by omega) hr (by kernel_rfl) rfl (by omega) (by omega)
    refine ⟨_, _, _, _, rfl, W', st, _, _, _, _, _, _, _, ld, _, _, by rw [hyes], by rw [redR_yes hyes]; exact ow, ?_, xx⟩
    exact nodup_append (nodup_opt p4) (nodup_opt p6) (m := w4.heap.size) (fun q hq => (ho.lt q hq).2 |> fun _ => (World.ownsRow.lt o4 q (by cases p4 <;> simp_all [Value.ownBlock])).2) (fun q hq => (World.ownsRow.lt o6 q (by cases p6 <;> simp_all [Value.ownBlock])).1)
theorem spec_l05Gcd_c {w : World} {p q : Option Addr} {n c m d : Nat} {x y : Nat} (h : IntsR w p n c (digs x)) (k : IntsR w q m d (digs y)) (hn : n ≤ 1000) (hm : m ≤ 1000) :
    Ret P n_spec_l05Gcd [.slice p n c, .slice q m d] w fun v w' => ∃ p' n' c', v = .slice p' n' c' ∧ IntsR w' p' n' c' (digs (Nat.gcd x y)) ∧ Ext w w' := by
  refine spec_l05Gcd_ret ?_
  unfold spec_l05Gcd
  obtain ⟨f, hf⟩ := numAt_ex
  refine ⟨fun ap an ac bp bn bc wr => ∃ s t, IntsR wr ap an ac (digs s) ∧ IntsR wr bp bn bc (digs t) ∧ an ≤ 100000 ∧ bn ≤ 100000 ∧ Ext w wr ∧ Nat.gcd s t = Nat.gcd x y, fun _ _ _ bp bn bc W => f W bp bn bc, ⟨x, y, h, k, by omega, by omega, Ext.refl _, rfl⟩, ?_⟩
  intro junk wr ap an ac bp bn bc ⟨s, t, ha, hb, han, hbn, hx, hg⟩
  have hbl := hb.1
  refine ifD (fun hlt => ?_) (fun hge => ?_)
  · have ht : 0 < t := by
      rcases Nat.eq_zero_or_pos t with e | e
      · subst e; rw [digs_zero] at hbl; simp at hbl; omega
      · exact e
    refine Ret.at (spec_l03Div_c ha hb (digs_limbs _) (digs_canon _) (by omega) han hbn) ?_
    rintro v w1 ⟨p1, n1, c1, p2, n2, c2, hv, o1, o2, y1⟩
    subst hv
    rw [val_mod] at o2
    have hn2 : n2 ≤ bn := by
      have := o2.1
      have := digs_mod_len (x := s) ht
      omega
    refine ⟨_, _, _, _, _, _, rfl, ⟨t, s % t, hb.ext y1, o2, hbn, by omega, hx.trans y1, by rw [gcd_step, hg]⟩, ?_⟩
    show f w1 p2 n2 c2 < f wr bp bn bc
    rw [hf _ _ _ _ _ o2, hf _ _ _ _ _ hb]
    exact Nat.mod_lt _ ht
  · have ht : t = 0 := by
      have : bn = 0 := by omega
      rw [this] at hbl
      exact digs_nil.1 (List.eq_nil_of_length_eq_zero hbl)
    subst ht
    rw [Nat.gcd_zero_right] at hg
    subst hg
    exact ⟨_, _, _, rfl, ha, hx⟩
theorem spec_l05Low_c {w : World} {neg : Bool} {n : Int} {d : Nat} {p q : Option Addr} {m c m2 c2 : Nat} (h : IntsR w p m c (digs n.natAbs)) (k : IntsR w q m2 c2 (digs d)) (hneg : n ≠ 0 → neg = decide (n < 0)) (hd : 0 < d) (hl : m ≤ 1000) (hm : m2 ≤ 1000) :
    Ret P n_spec_l05Low [.bool neg, .slice p m c, .slice q m2 c2] w fun v w' => ∃ vs f, v = .tuple #[.agg ⟨vs⟩, .bool (redOk n d)] ∧ Owns w' w.heap.size vs (redR n d) f ∧ f.Nodup ∧ Ext w w' := by
  have hla := h.1; have hlk := k.1
  refine spec_l05Low_ret ?_
  unfold spec_l05Low
  intro r w1 hn1
  have e1 := hn1.r_eq; have z1 := hn1.size
  refine Ret.at (spec_l02Trim_c (h.ext hn1.ext)) ?_
  rintro v w2 ⟨hv, hw, ht⟩
  subst hv; subst hw
  rw [trimL_eq (digs_limbs _), val_digs, Int.toNat_natCast] at ht ⊢
  refine ⟨_, _, _, rfl, ?_⟩
  refine Ret.at (spec_l02Trim_c (k.ext hn1.ext)) ?_
  rintro v w3 ⟨hv, hw, kt⟩
  subst hv; subst hw
  rw [trimL_eq (digs_limbs _), val_digs, Int.toNat_natCast] at kt ⊢
  have hd0 := digs_pos_len.2 (show d ≠ 0 by omega)
  refine ⟨_, _, _, rfl, ifD (fun hh => absurd hh (by omega)) (fun _ => ?_)⟩
  refine Ret.at (spec_l05Gcd_c ht kt (by omega) (by omega)) ?_
  rintro v w4 ⟨p4, n4, c4, hv, G, y4⟩
  subst hv
  have gpos : 0 < Nat.gcd n.natAbs d := gcd_pos_right hd
  have lg := G.1
  have hg3 : 0 < n4 := by have := digs_pos_len.2 (show Nat.gcd n.natAbs d ≠ 0 by omega); omega
  have hg4 : n4 ≤ 1000 := by have := digs_mono_len (Nat.le_of_dvd hd (Nat.gcd_dvd_right n.natAbs d)); omega
  refine ⟨_, _, _, rfl, ?_⟩
  refine Ret.at (spec_l03Div_c (ht.ext y4) G (digs_limbs _) (digs_canon _) hg3 (by omega) (by omega)) ?_
  rintro v w5 ⟨p5, n5, c5, p6, n6, c6, hv, i5, _, y5⟩
  subst hv
  rw [val_div] at i5
  refine ⟨_, _, _, _, _, _, rfl, ?_⟩
  refine Ret.at (spec_l03Div_c (kt.ext (y4.trans y5)) (G.ext y5) (digs_limbs _) (digs_canon _) hg3 (by omega) (by omega)) ?_
  rintro v w6 ⟨p7, n7, c7, p8, n8, c8, hv, i7, _, y6⟩
  subst hv
  rw [val_div] at i7
  have Y := (y4.trans y5).trans y6
  have q1 := hn1.blk.ext Y
  have X := hn1.ext.trans Y
  have lY := Y.le
  have l5 := i5.1; have l7 := i7.1
  have hok : redOk n d = (decide (n5 ≤ 18) && decide (n7 ≤ 18)) := by rw [redOk, l5, l7]
  have bad : redOk n d = false → ∃ W', Stores P T_impl_Rat ⟨r, 0, none⟩ (.agg ⟨[.bool false, .slice none 0 0, .slice none 0 0]⟩) w6 W' ∧ Loads P T_impl_Rat ⟨r, 0, none⟩ (.agg ⟨[.bool false, .slice none 0 0, .slice none 0 0]⟩) W' ∧ Owns W' w.heap.size [.bool false, .slice none 0 0, .slice none 0 0] (redR n d) [] ∧ Ext w W' := fun hno => by
    obtain ⟨W', st, ld, ow, xx, _, _⟩ := agg_end (t := T_impl_Rat) q1 X (by omega) (own_rat0 w6 (r + 1)) (by kernel_rfl) rfl (by omega) (by omega)
    exact ⟨W', st, ld, by rw [redR_no hno]; exact ow, xx⟩
  refine ⟨_, _, _, _, _, _, rfl, ifD (fun h4 => ifT ?_) (fun h4 => ifD (fun h6 => ?_) (fun h6 => ?_))⟩
  · have hno : redOk n d = false := by rw [hok, decide_eq_false (by omega)]; rfl
    obtain ⟨W', st, ld, ow, xx⟩ := bad hno
    exact ⟨W', st, _, _, _, _, _, _, _, ld, _, [], by rw [hno], ow, List.nodup_nil, xx⟩
  · have hno : redOk n d = false := by rw [hok, decide_eq_false (show ¬ n7 ≤ 18 by omega), Bool.and_false]
    obtain ⟨W', st, ld, ow, xx⟩ := bad hno
    exact ⟨W', st, _, _, _, _, _, _, _, ld, _, [], by rw [hno], ow, List.nodup_nil, xx⟩
  · have hyes : redOk n d = true := by rw [hok, decide_eq_true (show n5 ≤ 18 by omega), decide_eq_true (show n7 ≤ 18 by omega)]; rfl
    refine Ret.at (spec_l04Make_c (i5.ext y6) (digs_limbs _)) ?_
    rintro v w7 ⟨b7, p9, n9, c9, hv, hb7, o9, y7⟩
    subst hv
    rw [val_digs, Int.toNat_natCast] at hb7 o9
    have ecap : capL (digs (n.natAbs / Nat.gcd n.natAbs d)) = digs (n.natAbs / Nat.gcd n.natAbs d) := by unfold capL; rw [if_pos (by omega)]
    rw [ecap] at hb7 o9
    have ho : Owns w7 w6.heap.size [.bool b7, .slice p9 n9 c9] (enc (redN n d)) (p9.map (·.block)).toList := by
      have e : enc (redN n d) = mkS neg (digs (n.natAbs / Nat.gcd n.natAbs d)) := by
        by_cases hn : n = 0
        · subst hn
          rw [enc_redN]
          simp [mkS, digs_zero]
        · rw [enc_redN, hneg hn]
      rw [e]
      have := Owns.int2 (b := b7) o9
      rw [hb7] at this
      rw [hb7]
      exact this
    refine ⟨_, _, _, _, rfl, ?_⟩
    intro r8 w8 hn8
    obtain ⟨p10, c10, w10, ap10, o10, x10⟩ := append0 hn8.blk ((i7.ext y7).ext hn8.ext) (by omega)
    have e8 := hn8.r_eq; have z8 := hn8.size; have ly7 := y7.le; have ly6 := y6.le
    have y10 : Ext w8 w10 := x10
    have hr := own_rmk ((ho.ext hn8.ext).ext y10) (o10.mono (show w6.heap.size ≤ r8 by omega))
    obtain ⟨W', st, ld, ow, xx, _, _⟩ := agg_end (t := T_impl_Rat) (((q1.ext y7).ext hn8.ext).ext y10) (((X.trans y7).trans hn8.ext).trans y10) (by omega) hr (by kernel_rfl) rfl (by omega) (by omega)
    refine ⟨_, _, _, _, ap10, W', st, _, _, _, _, _, _, _, ld, _, _, by rw [hyes], by rw [redR_yes hyes]; exact ow, ?_, xx⟩
    exact nodup_append (nodup_opt p9) (nodup_opt p10) (m := w7.heap.size) (fun q hq => (ho.lt q hq).2) (fun q hq => by
      have := own_out o10 q (opt_mem hq)
      omega)
end Go.Proofs.YtfemmmbkhhemaaaGreatDoor

namespace Go.Proofs.YtfemmmbkhhemaaaGreatDoor
open Go Go.Proofs.YtfemmmbkhhemaaaGreatDoor.Sx
set_option linter.unusedVariables false
set_option linter.unusedSimpArgs false
theorem rmk_open {w : World} {vs : List Value} {N : Int} {D : Nat} (h : Reps w vs (rmk N D)) (hok : ratOk (rmk N D) = true) :
    ∃ p1 n1 c1 p2 n2 c2, vs = [.bool (decide (N < 0)), .slice p1 n1 c1, .slice p2 n2 c2] ∧ IntsR w p1 n1 c1 (digs N.natAbs) ∧ IntsR w p2 n2 c2 (digs D) ∧ n1 ≤ 18 ∧ n2 ≤ 18 ∧ Reps w [.bool (decide (N < 0)), .slice p1 n1 c1] (enc N) ∧ 0 < D := by
  have := rat_parts h (rmk_code N D) hok
  have k := (ratOk_enc hok).2.1
  rw [ratNum_rmk, ratDen_rmk] at this
  rw [ratDen_rmk] at k
  obtain ⟨p1, n1, c1, p2, n2, c2, a, b, c, d, e, f⟩ := this
  exact ⟨p1, n1, c1, p2, n2, c2, a, b, c, d, e, f, k⟩
theorem mkS_of {b : Bool} {m : Nat} {z : Int} (hm : m = z.natAbs) (hb : z ≠ 0 → b = decide (z < 0)) : mkS b (digs m) = enc z := by
  by_cases hz : z = 0
  · subst hz; subst hm; simp [mkS, enc, digs_zero]
  · rw [hb hz, hm]
    unfold mkS enc
    rw [isEmpty_digs]
    have : z.natAbs ≠ 0 := by omega
    simp [this]
theorem mul_sign {x y : Int} (h : x * y ≠ 0) : (!(decide (x < 0) == decide (y < 0))) = decide (x * y < 0) := by
  have hx : x ≠ 0 := fun e => h (by rw [e, Int.zero_mul])
  have hy : y ≠ 0 := fun e => h (by rw [e, Int.mul_zero])
  rcases Int.lt_or_gt_of_ne hx with h1 | h1 <;> rcases Int.lt_or_gt_of_ne hy with h2 | h2
  · have := Int.mul_pos_of_neg_of_neg h1 h2
    simp [h1, h2]; omega
  · have := Int.mul_neg_of_neg_of_pos h1 h2
    have h3 : ¬ y < 0 := by omega
    simp [h1, h3, this]
  · have := Int.mul_neg_of_pos_of_neg h1 h2
    have h3 : ¬ x < 0 := by omega
    simp [h2, h3, this]
  · have := Int.mul_pos h1 h2
    have h3 : ¬ x < 0 := by omega
    have h4 : ¬ y < 0 := by omega
    simp [h3, h4]; omega
theorem val_mul (m k : Nat) : (val (digs m) * val (digs k)).toNat = m * k := by rw [val_digs, val_digs, ← Int.natCast_mul, Int.toNat_natCast]
theorem natCast_enc (k : Nat) : enc (k : Int) = [.bool false, .ints (digs k)] := enc_nat k
/-- a sign and limbs of one's own, made an integer of one's own -/
theorem own_int {W : World} {B : Nat} {b : Bool} {p : Option Addr} {n c m : Nat} {z : Int} (h : Own W B T_int 1 p n c ((digs m).map (Value.int .i64))) (hm : m = z.natAbs) (hb : z ≠ 0 → b = decide (z < 0)) :
    Owns W B [.bool (b && !(digs m).isEmpty), .slice p n c] (enc z) (p.map (·.block)).toList := by
  rw [← mkS_of hm hb]
  exact Owns.int2 h
/-- one object laid at some time between -/
def FlSt (o : Obj) (w0 : World) (ss : List (Option Nat)) (w : World) : Prop := Ext w0 w ∧ (ss = [none] ∨ ∃ r, ss = [some r] ∧ w0.heap.size ≤ r ∧ w.heap[r]? = some o)
theorem FlSt.start {o : Obj} (w0 : World) : FlSt o w0 [none] w0 := ⟨Ext.refl _, .inl rfl⟩
theorem FlSt.ext {o : Obj} {w0 w w' : World} {ss : List (Option Nat)} (h : FlSt o w0 ss w) (y : Ext w w') : FlSt o w0 ss w' := by
  refine ⟨h.1.trans y, ?_⟩
  rcases h.2 with h2 | ⟨r, h2, h3, h4⟩
  · exact .inl h2
  · exact .inr ⟨r, h2, h3, (y.block r (Array.getElem?_eq_some_iff.1 h4).1).trans h4⟩
theorem FlSt.step {o : Obj} {w0 w w' : World} {ss ss' : List (Option Nat)} (h : FlSt o w0 ss w) (f : Fl [o] ss w ss' w') : FlSt o w0 ss' w' := by
  refine ⟨h.1.trans f.ext, ?_⟩
  have hl := f.len
  rcases h.2 with h2 | ⟨r, h2, h3, h4⟩
  · subst h2
    match ss', hl, f with
    | [none], _, _ => exact .inl rfl
    | [some r], _, f =>
      obtain ⟨a, b⟩ := f.got (k := 0) rfl rfl rfl
      exact .inr ⟨r, rfl, Nat.le_trans h.1.le a, b⟩
    | [], hl, _ => simp at hl
    | _ :: _ :: _, hl, _ => simp at hl
  · subst h2
    have hk := f.keeps (k := 0) (r := r) rfl
    match ss', hl, hk with
    | [x], _, hk =>
      simp at hk
      subst hk
      exact .inr ⟨r, rfl, h3, (f.ext.block r (Array.getElem?_eq_some_iff.1 h4).1).trans h4⟩
    | [], hl, _ => simp at hl
    | _ :: _ :: _, hl, _ => simp at hl
theorem FlSt.get {o : Obj} {w0 w : World} {ss : List (Option Nat)} {r : Nat} (h : FlSt o w0 ss w) (hr : ss[0]? = some (some r)) : w0.heap.size ≤ r ∧ w.heap[r]? = some o := by
  rcases h.2 with h2 | ⟨r', h2, h3, h4⟩
  · subst h2; simp at hr
  · subst h2
    simp at hr
    subst hr
    exact ⟨h3, h4⟩
theorem impl_ratsOk_c {w : World} {xs ys : List Value} {N1 N2 : Int} {D1 D2 : Nat} (h : Reps w xs (rmk N1 D1)) (g : Reps w ys (rmk N2 D2)) (hok : ratOk (rmk N1 D1) = true) (gok : ratOk (rmk N2 D2) = true) :
    Ret P n_impl_ratsOk [.agg ⟨xs⟩, .agg ⟨ys⟩] w fun v w' => v = .bool true ∧ Ext w w' := by
  have hr := h; have gr := g
  obtain ⟨p1, n1, c1, q1, m1, d1, rfl, i1, i2, _, _, he, hd1⟩ := rmk_open h hok
  obtain ⟨p2, n2, c2, q2, m2, d2, rfl, j1, j2, _, _, ke, hd2⟩ := rmk_open g gok
  refine impl_ratsOk_ret ?_
  unfold impl_ratsOk
  intro r w1 hn1 r1 w2 hn2
  have X := hn1.ext.trans hn2.ext
  refine ⟨_, _, _, _, _, _, _, (hn1.blk.ext hn2.ext).loadA0 (by kernel_rfl), ?_⟩
  refine Ret.at (impl_RatOk_c (hr.ext X) (rmk_code _ _)) ?_
  rintro v w3 ⟨hv, y3⟩
  subst hv
  rw [hok]
  refine ⟨_, rfl, ifT ⟨_, _, _, _, _, _, _, (hn2.blk.ext y3).loadA0 (by kernel_rfl), ?_⟩⟩
  refine Ret.at (impl_RatOk_c (gr.ext (X.trans y3)) (rmk_code _ _)) ?_
  rintro v w4 ⟨hv, y4⟩
  subst hv
  rw [gok]
  exact ⟨_, rfl, rfl, (X.trans y3).trans y4⟩
theorem impl_intMul_s {w : World} {xs ys : List Value} {x y : Int} (h : Reps w xs (enc x)) (g : Reps w ys (enc y)) (hx : (digs x.natAbs).length ≤ 100) (hy : (digs y.natAbs).length ≤ 100) :
    Ret P n_impl_intMul [.agg ⟨xs⟩, .agg ⟨ys⟩] w fun v w' => ∃ vs f, v = .agg ⟨vs⟩ ∧ Owns w' w.heap.size vs (enc (x * y)) f ∧ f.Nodup ∧ Ext w w' := by
  obtain ⟨a0, ap, an, ac, az, rfl, hd, ha⟩ := open_Signed h (enc_code _)
  simp only [enc, List.cons.injEq, D0.bool.injEq, D0.ints.injEq, and_true] at hd
  obtain ⟨rfl, rfl⟩ := hd
  obtain ⟨b0, bp, bn, bc, bz, rfl, hd, hb⟩ := open_Signed g (enc_code _)
  simp only [enc, List.cons.injEq, D0.bool.injEq, D0.ints.injEq, and_true] at hd
  obtain ⟨rfl, rfl⟩ := hd
  have la := ha.1; have lb := hb.1
  refine impl_intMul_ret ?_
  unfold impl_intMul
  intro r w1 hn1 r1 w2 hn2 r2 w3 hn3
  have e1 := hn1.r_eq; have e2 := hn2.r_eq; have e3 := hn3.r_eq; have z1 := hn1.size; have z2 := hn2.size; have z3 := hn3.size
  have D := Ext.drew w3
  have X := ((hn1.ext.trans hn2.ext).trans hn3.ext).trans D
  have q0 := ((hn1.blk.ext hn2.ext).ext hn3.ext).ext D
  have q1 := (hn2.blk.ext hn3.ext).ext D
  have q2 := hn3.blk.ext D
  have lD := D.le
  refine ⟨_, fun W hW => (q0.ext hW).loadAt 0 rfl (by kernel_rfl) rfl, _, fun W hW => (q1.ext hW).loadAt 0 rfl (by kernel_rfl) rfl, _, _, _, fun W hW => (q0.ext hW).loadAt 1 rfl (by kernel_rfl) rfl, _, _, _, fun W hW => (q1.ext hW).loadAt 1 rfl (by kernel_rfl) rfl, ?_⟩
  refine Ret.at (impl_natMul_c (ha.ext X) (hb.ext X) (digs_limbs _) (digs_limbs _) (by omega) (by omega)) ?_
  rintro v w4 ⟨p', n', c', hv, ho, y4⟩
  subst hv
  rw [val_mul] at ho
  refine ⟨_, _, _, rfl, y4, ?_⟩
  refine Ret.at (impl_signed_c (neg := !(decide (x < 0) == decide (y < 0))) ho.ints.1) ?_
  rintro v w5 ⟨hv, y5⟩
  subst hv
  obtain ⟨W', st, ld, ow, xx, _, _⟩ := agg_end (t := T_impl_Signed) ((q2.ext y4).ext y5) ((X.trans y4).trans y5) (by omega) (own_int (ho.ext y5) (z := x * y) (by rw [Int.natAbs_mul]) mul_sign) (by kernel_rfl) rfl (by omega) (by omega)
  exact ⟨_, _, _, _, rfl, W', st, _, _, _, _, ld, _, _, rfl, ow, nodup_opt p', xx⟩
theorem impl_RatMul_n {w : World} {xs ys : List Value} {N1 N2 : Int} {D1 D2 : Nat} (h : Reps w xs (rmk N1 D1)) (g : Reps w ys (rmk N2 D2)) (hok : ratOk (rmk N1 D1) = true) (gok : ratOk (rmk N2 D2) = true) :
    Ret P n_impl_RatMul [.agg ⟨xs⟩, .agg ⟨ys⟩] w fun v w' => ∃ vs f, v = .tuple #[.agg ⟨vs⟩, .bool (redOk (N1 * N2) (D1 * D2))] ∧ Owns w' w.heap.size vs (redR (N1 * N2) (D1 * D2)) f ∧ f.Nodup ∧ Ext w w' := by
  have hr := h; have gr := g
  obtain ⟨p1, n1, c1, q1, m1, d1, rfl, i1, i2, li1, li2, he, hd1⟩ := rmk_open h hok
  obtain ⟨p2, n2, c2, q2, m2, d2, rfl, j1, j2, lj1, lj2, ke, hd2⟩ := rmk_open g gok
  have ei1 := i1.1; have ei2 := i2.1; have ej1 := j1.1; have ej2 := j2.1
  have pN := prod_len (x := N1.natAbs) (y := N2.natAbs) (i := 18) (j := 18) (by omega) (by omega)
  have pD := prod_len (x := D1) (y := D2) (i := 18) (j := 18) (by omega) (by omega)
  refine impl_RatMul_ret ?_
  unfold impl_RatMul
  intro r w1 hn1 r1 w2 hn2 r2 w3 hn3
  have e1 := hn1.r_eq; have e2 := hn2.r_eq; have e3 := hn3.r_eq; have z1 := hn1.size; have z2 := hn2.size; have z3 := hn3.size
  have X := (hn1.ext.trans hn2.ext).trans hn3.ext
  have b0 := (hn1.blk.ext hn2.ext).ext hn3.ext; have b1 := hn2.blk.ext hn3.ext; have b2 := hn3.blk
  refine ⟨_, _, _, _, _, _, _, b0.loadA0 (by kernel_rfl), _, _, _, _, _, _, _, b1.loadA0 (by kernel_rfl), ?_⟩
  refine Ret.at (impl_ratsOk_c (hr.ext X) (gr.ext X) hok gok) ?_
  rintro v w4 ⟨hv, y4⟩
  subst hv
  refine ⟨_, rfl, ifN (fun hh => absurd hh (by simp)) (fun _ => ?_)⟩
  have D := Ext.drew w4
  have Y := y4.trans D
  have X4 := X.trans Y
  have lY := Y.le
  have b0 := b0.ext Y; have b1 := b1.ext Y; have b2 := b2.ext Y
  refine ⟨_, _, _, _, fun W hW => (b0.ext hW).loadAAt 0 [.bool (decide (N1 < 0)), .slice p1 n1 c1] rfl (by kernel_rfl) rfl, _, _, _, _, fun W hW => (b1.ext hW).loadAAt 0 [.bool (decide (N2 < 0)), .slice p2 n2 c2] rfl (by kernel_rfl) rfl, ?_⟩
  refine Ret.at (impl_intMul_s (he.ext X4) (ke.ext X4) (by omega) (by omega)) ?_
  rintro v w5 ⟨vs5, f5, hv, ho5, _, y5⟩
  subst hv
  obtain ⟨s0, sp, sn, sc, sz, rfl, _, _⟩ := open_Signed ho5.reps (enc_code _)
  refine ⟨_, _, _, _, rfl, y5, _, _, _, fun W hW => (b0.ext hW).loadAt 2 rfl (by kernel_rfl) rfl, _, _, _, fun W hW => (b1.ext hW).loadAt 2 rfl (by kernel_rfl) rfl, ?_⟩
  refine Ret.at (impl_natMul_c (i2.ext (X4.trans y5)) (j2.ext (X4.trans y5)) (digs_limbs _) (digs_limbs _) (by omega) (by omega)) ?_
  rintro v w6 ⟨p6, n6, c6, hv, o6, y6⟩
  subst hv
  rw [val_mul] at o6
  have l6 := o6.ints.1
  have l5 := y5.le; have l6' := y6.le
  refine ⟨_, _, _, rfl, ?_⟩
  refine Ret.at (impl_reduce_c (ho5.reps.ext y6) o6.ints (Nat.mul_pos hd1 hd2) (by rw [Int.natAbs_mul]; omega) (by omega)) ?_
  rintro v w99 ⟨vs9, f9, hv, ho9, nd9, y99⟩
  subst hv
  obtain ⟨zb, zp, zn, zc, zz, zp2, zn2, zc2, zz2, rfl, _, _, _⟩ := open_Rat ho9.reps (redR_code _ _)
  obtain ⟨W', st', ld', ow', xx', _, _⟩ := agg_end (t := T_impl_Rat) (((b2.ext y5).ext y6).ext y99) (((X4.trans y5).trans y6).trans y99) (by omega) ho9 (by kernel_rfl) rfl (by omega) (by omega)
  exact ⟨_, _, _, _, _, _, _, _, rfl, W', st', _, _, _, _, _, _, _, ld', _, f9, rfl, ow', nd9, xx'⟩
  
theorem spec_RatMul_n {w : World} {xs ys : List Value} {N1 N2 : Int} {D1 D2 : Nat} (h : Reps w xs (rmk N1 D1)) (g : Reps w ys (rmk N2 D2)) (hok : ratOk (rmk N1 D1) = true) (gok : ratOk (rmk N2 D2) = true) :
    Ret P n_spec_RatMul [.agg ⟨xs⟩, .agg ⟨ys⟩] w fun v w' => ∃ vs f, v = .tuple #[.agg ⟨vs⟩, .bool (redOk (N1 * N2) (D1 * D2))] ∧ Owns w' w.heap.size vs (redR (N1 * N2) (D1 * D2)) f ∧ f.Nodup ∧ Ext w w' := by
  have hr := h; have gr := g
  obtain ⟨p1, n1, c1, q1, m1, d1, rfl, i1, i2, li1, li2, he, hd1⟩ := rmk_open h hok
  obtain ⟨p2, n2, c2, q2, m2, d2, rfl, j1, j2, lj1, lj2, ke, hd2⟩ := rmk_open g gok
  have ei1 := i1.1; have ei2 := i2.1; have ej1 := j1.1; have ej2 := j2.1
  have pN := prod_len (x := N1.natAbs) (y := N2.natAbs) (i := 18) (j := 18) (by omega) (by omega)
  have pD := prod_len (x := D1) (y := D2) (i := 18) (j := 18) (by omega) (by omega)
  refine spec_RatMul_ret ?_
  unfold spec_RatMul
  intro r w1 hn1 r1 w2 hn2 r2 w3 hn3
  have e1 := hn1.r_eq; have e2 := hn2.r_eq; have e3 := hn3.r_eq; have z1 := hn1.size; have z2 := hn2.size; have z3 := hn3.size
  have X := (hn1.ext.trans hn2.ext).trans hn3.ext
  have b0 := (hn1.blk.ext hn2.ext).ext hn3.ext; have b1 := hn2.blk.ext hn3.ext; have b2 := hn3.blk
  refine ⟨_, _, _, _, _, _, _, b0.loadA0 (by kernel_rfl), ?_⟩
  refine Ret.at (spec_RatOk_c (hr.ext X) (rmk_code _ _)) ?_
  rintro v w5 ⟨hv, y5⟩
  subst hv
  rw [hok]
  refine ⟨_, rfl, ifN (fun hh => absurd hh (by simp)) (fun _ => ⟨_, _, _, _, _, _, _, (b1.ext y5).loadA0 (by kernel_rfl), ?_⟩)⟩
  refine Ret.at (spec_RatOk_c (gr.ext (X.trans y5)) (rmk_code _ _)) ?_
  rintro v w4 ⟨hv, y4⟩
  subst hv
  rw [gok]
  refine ⟨_, rfl, ifN (fun hh => absurd hh (by simp)) (fun _ => ?_)⟩
  unfold spec_RatMul_j0
  have D := Ext.drew w4
  have Y := (y5.trans y4).trans D
  have X4 := X.trans Y
  have lY := Y.le
  have b0 := b0.ext Y; have b1 := b1.ext Y; have b2 := b2.ext Y
  refine ⟨_, fun W hW => (b0.ext hW).loadAt 0 rfl (by kernel_rfl) rfl, _, fun W hW => (b1.ext hW).loadAt 0 rfl (by kernel_rfl) rfl, _, _, _, fun W hW => (b0.ext hW).loadAt 1 rfl (by kernel_rfl) rfl, _, _, _, fun W hW => (b1.ext hW).loadAt 1 rfl (by kernel_rfl) rfl, ?_⟩
  refine Ret.at (spec_l02Mul_c (i1.ext X4) (j1.ext X4) (digs_limbs _) (digs_limbs _) (by omega) (by omega)) ?_
  rintro v w6 ⟨p6, n6, c6, hv, o6, y6⟩
  subst hv
  rw [val_mul, ← Int.natAbs_mul] at o6
  rw [← Int.natAbs_mul] at pN
  have l6 := o6.ints.1
  refine ⟨_, _, _, rfl, y6, _, _, _, fun W hW => (b0.ext hW).loadAt 2 rfl (by kernel_rfl) rfl, _, _, _, fun W hW => (b1.ext hW).loadAt 2 rfl (by kernel_rfl) rfl, ?_⟩
  refine Ret.at (spec_l02Mul_c (i2.ext (X4.trans y6)) (j2.ext (X4.trans y6)) (digs_limbs _) (digs_limbs _) (by omega) (by omega)) ?_
  rintro v w7 ⟨p7, n7, c7, hv, o7, y7⟩
  subst hv
  rw [val_mul] at o7
  have l7 := o7.ints.1
  have l6' := y6.le; have l7' := y7.le
  refine ⟨_, _, _, rfl, y7, ?_⟩
  refine Ret.at (spec_l05Low_c (n := N1 * N2) (o6.ints.ext y7) o7.ints mul_sign (Nat.mul_pos hd1 hd2) (by omega) (by omega)) ?_
  rintro v w99 ⟨vs9, f9, hv, ho9, nd9, y99⟩
  subst hv
  obtain ⟨zb, zp, zn, zc, zz, zp2, zn2, zc2, zz2, rfl, _, _, _⟩ := open_Rat ho9.reps (redR_code _ _)
  obtain ⟨W', st', ld', ow', xx', _, _⟩ := agg_end (t := T_impl_Rat) (((b2.ext y6).ext y7).ext y99) (((X4.trans y6).trans y7).trans y99) (by omega) ho9 (by kernel_rfl) rfl (by omega) (by omega)
  exact ⟨_, _, _, _, _, _, _, _, rfl, W', st', _, _, _, _, _, _, _, ld', _, f9, rfl, ow', nd9, xx'⟩
  
theorem impl_RatMake_n {w : World} {xs ys : List Value} {x : Int} {k : Nat} (h : Reps w xs (enc x)) (g : Reps w ys (enc (k : Int))) (hx : (digs x.natAbs).length ≤ 50) (hk : (digs k).length ≤ 50) (hk0 : 0 < k) :
    Ret P n_impl_RatMake [.agg ⟨xs⟩, .agg ⟨ys⟩] w fun v w' => ∃ vs f, v = .tuple #[.agg ⟨vs⟩, .bool (redOk (x) (k))] ∧ Owns w' w.heap.size vs (redR (x) (k)) f ∧ f.Nodup ∧ Ext w w' := by
  have hr := h; have gr := g
  obtain ⟨a0, p1, n1, c1, az, rfl, hd, i1⟩ := open_Signed h (enc_code _)
  simp only [enc, List.cons.injEq, D0.bool.injEq, D0.ints.injEq, and_true] at hd
  obtain ⟨rfl, rfl⟩ := hd
  rw [natCast_enc] at g
  obtain ⟨b0, p2, n2, c2, bz, rfl, hd, j1⟩ := open_Signed g rfl
  simp only [List.cons.injEq, D0.bool.injEq, D0.ints.injEq, and_true] at hd
  obtain ⟨rfl, rfl⟩ := hd
  have ei1 := i1.1; have ej1 := j1.1
  have ok1 : intOk (enc x) = true := enc_ok hx
  have ok2 : intOk (enc (k : Int)) = true := enc_ok (by rw [Int.natAbs_natCast]; exact hk)
  have hk1 := digs_pos_len.2 (show k ≠ 0 by omega)
  have sg : x ≠ 0 → (!(decide (x < 0) == false)) = decide (x < 0) := fun _ => by cases decide (x < 0) <;> rfl
  refine impl_RatMake_ret ?_
  unfold impl_RatMake
  intro r w1 hn1 r1 w2 hn2 r2 w3 hn3
  have e1 := hn1.r_eq; have e2 := hn2.r_eq; have e3 := hn3.r_eq; have z1 := hn1.size; have z2 := hn2.size; have z3 := hn3.size
  have X := (hn1.ext.trans hn2.ext).trans hn3.ext
  have b0 := (hn1.blk.ext hn2.ext).ext hn3.ext; have b1 := hn2.blk.ext hn3.ext; have b2 := hn3.blk
  refine ⟨_, _, _, _, b0.loadA0 (by kernel_rfl), _, _, _, _, b1.loadA0 (by kernel_rfl), ?_⟩
  refine Ret.at (impl_intsOk_c (hr.ext X) (gr.ext X) (enc_code _) (enc_code _)) ?_
  rintro v w4 ⟨hv, y4⟩
  subst hv
  rw [ok1, ok2]
  refine ⟨_, rfl, ifN (fun hh => absurd hh (by simp)) (fun _ => ⟨_, _, _, (b1.ext y4).loadAt 1 rfl (by kernel_rfl) rfl, ifD (fun hh => absurd hh (by omega)) (fun _ => ?_)⟩)⟩
  unfold impl_RatMake_j0
  have D := Ext.drew w4
  have Y := y4.trans D
  have X4 := X.trans Y
  have lY := Y.le
  have b0 := b0.ext Y; have b1 := b1.ext Y; have b2 := b2.ext Y
  refine ⟨_, fun W hW => (b0.ext hW).loadAt 0 rfl (by kernel_rfl) rfl, _, fun W hW => (b1.ext hW).loadAt 0 rfl (by kernel_rfl) rfl, _, _, _, fun W hW => (b0.ext hW).loadAt 1 rfl (by kernel_rfl) rfl, ?_⟩
  refine Ret.at (impl_signed_c (neg := !(decide (x < 0) == false)) (i1.ext X4).1) ?_
  rintro v w5 ⟨hv, y5⟩
  subst hv
  have l5 := y5.le
  refine ⟨_, _, _, _, rfl, y5, _, _, _, fun W hW => (b1.ext hW).loadAt 1 rfl (by kernel_rfl) rfl, ?_⟩
  have hs : Reps w5 [.bool ((!(decide (x < 0) == false)) && !(digs x.natAbs).isEmpty), .slice p1 n1 c1] (enc x) := by
    rw [← mkS_of (b := !(decide (x < 0) == false)) rfl sg]
    exact ⟨rfl, ⟨_, _, _, rfl, i1.ext (X4.trans y5)⟩, trivial⟩
  refine Ret.at (impl_reduce_c hs (j1.ext (X4.trans y5)) hk0 (by omega) (by omega)) ?_
  rintro v w99 ⟨vs9, f9, hv, ho9, nd9, y99⟩
  subst hv
  obtain ⟨zb, zp, zn, zc, zz, zp2, zn2, zc2, zz2, rfl, _, _, _⟩ := open_Rat ho9.reps (redR_code _ _)
  obtain ⟨W', st', ld', ow', xx', _, _⟩ := agg_end (t := T_impl_Rat) ((b2.ext y5).ext y99) ((X4.trans y5).trans y99) (by omega) ho9 (by kernel_rfl) rfl (by omega) (by omega)
  exact ⟨_, _, _, _, _, _, _, _, rfl, W', st', _, _, _, _, _, _, _, ld', _, f9, rfl, ow', nd9, xx'⟩
  
theorem spec_RatMake_n {w : World} {xs ys : List Value} {x : Int} {k : Nat} (h : Reps w xs (enc x)) (g : Reps w ys (enc (k : Int))) (hx : (digs x.natAbs).length ≤ 50) (hk : (digs k).length ≤ 50) (hk0 : 0 < k) :
    Ret P n_spec_RatMake [.agg ⟨xs⟩, .agg ⟨ys⟩] w fun v w' => ∃ vs f, v = .tuple #[.agg ⟨vs⟩, .bool (redOk (x) (k))] ∧ Owns w' w.heap.size vs (redR (x) (k)) f ∧ f.Nodup ∧ Ext w w' := by
  have hr := h; have gr := g
  obtain ⟨a0, p1, n1, c1, az, rfl, hd, i1⟩ := open_Signed h (enc_code _)
  simp only [enc, List.cons.injEq, D0.bool.injEq, D0.ints.injEq, and_true] at hd
  obtain ⟨rfl, rfl⟩ := hd
  rw [natCast_enc] at g
  obtain ⟨b0, p2, n2, c2, bz, rfl, hd, j1⟩ := open_Signed g rfl
  simp only [List.cons.injEq, D0.bool.injEq, D0.ints.injEq, and_true] at hd
  obtain ⟨rfl, rfl⟩ := hd
  have ei1 := i1.1; have ej1 := j1.1
  have ok1 : intOk (enc x) = true := enc_ok hx
  have ok2 : intOk (enc (k : Int)) = true := enc_ok (by rw [Int.natAbs_natCast]; exact hk)
  have hk1 := digs_pos_len.2 (show k ≠ 0 by omega)
  have sg : x ≠ 0 → (!(decide (x < 0) == false)) = decide (x < 0) := fun _ => by cases decide (x < 0) <;> rfl
  refine spec_RatMake_ret ?_
  unfold spec_RatMake
  intro r w1 hn1 r1 w2 hn2 r2 w3 hn3
  have e1 := hn1.r_eq; have e2 := hn2.r_eq; have e3 := hn3.r_eq; have z1 := hn1.size; have z2 := hn2.size; have z3 := hn3.size
  have X := (hn1.ext.trans hn2.ext).trans hn3.ext
  have b0 := (hn1.blk.ext hn2.ext).ext hn3.ext; have b1 := hn2.blk.ext hn3.ext; have b2 := hn3.blk
  refine ⟨_, _, _, _, b0.loadA0 (by kernel_rfl), ?_⟩
  refine Ret.at (spec_IntOk_c (hr.ext X) (enc_code _)) ?_
  rintro v w4 ⟨hv, y4⟩
  subst hv
  rw [ok1]
  refine ⟨_, rfl, ifN (fun hh => absurd hh (by simp)) (fun _ => ⟨_, _, _, _, (b1.ext y4).loadA0 (by kernel_rfl), ?_⟩)⟩
  refine Ret.at (spec_IntOk_c (gr.ext (X.trans y4)) (enc_code _)) ?_
  rintro v w5 ⟨hv, y5⟩
  subst hv
  rw [ok2]
  refine ⟨_, rfl, ifN (fun hh => absurd hh (by simp)) (fun _ => ?_)⟩
  unfold spec_RatMake_j0
  have Y := y4.trans y5
  have X4 := X.trans Y
  have lY := Y.le
  have b0 := b0.ext Y; have b1 := b1.ext Y; have b2 := b2.ext Y
  refine ⟨_, b0.loadAt 0 rfl (by kernel_rfl) rfl, _, b1.loadAt 0 rfl (by kernel_rfl) rfl, _, _, _, b0.loadAt 1 rfl (by kernel_rfl) rfl, _, _, _, b1.loadAt 1 rfl (by kernel_rfl) rfl, ?_⟩
  refine Ret.at (spec_l05Low_c (n := x) (i1.ext X4) (j1.ext X4) sg hk0 (by omega) (by omega)) ?_
  rintro v w99 ⟨vs9, f9, hv, ho9, nd9, y99⟩
  subst hv
  obtain ⟨zb, zp, zn, zc, zz, zp2, zn2, zc2, zz2, rfl, _, _, _⟩ := open_Rat ho9.reps (redR_code _ _)
  obtain ⟨W', st', ld', ow', xx', _, _⟩ := agg_end (t := T_impl_Rat) ((b2).ext y99) ((X4).trans y99) (by omega) ho9 (by kernel_rfl) rfl (by omega) (by omega)
  exact ⟨_, _, _, _, _, _, _, _, rfl, W', st', _, _, _, _, _, _, _, ld', _, f9, rfl, ow', nd9, xx'⟩
  
theorem impl_RatInt_n {w : World} {xs : List Value} {x : Int} (h : Reps w xs (enc x)) (hx : (digs x.natAbs).length ≤ 50) :
    Ret P n_impl_RatInt [.agg ⟨xs⟩] w fun v w' => ∃ vs f, v = .tuple #[.agg ⟨vs⟩, .bool (redOk (x) (1))] ∧ Owns w' w.heap.size vs (redR (x) (1)) f ∧ f.Nodup ∧ Ext w w' := by
  have hr := h
  obtain ⟨a0, p1, n1, c1, az, rfl, hd, i1⟩ := open_Signed h (enc_code _)
  refine impl_RatInt_ret ?_
  unfold impl_RatInt
  intro r w1 hn1 r1 w2 hn2
  have e1 := hn1.r_eq; have e2 := hn2.r_eq; have z1 := hn1.size; have z2 := hn2.size
  have D := Ext.drew w2
  have lD := D.le
  have X := (hn1.ext.trans hn2.ext).trans D
  have b0 := (hn1.blk.ext hn2.ext).ext D; have b1 := hn2.blk.ext D
  refine ⟨_, _, _, _, fun W hW => (b0.ext hW).loadA0 (by kernel_rfl), ?_⟩
  refine Ret.at (impl_IntOf_c (n := 1) (by omega) (by omega)) ?_
  rintro v w3 ⟨vs3, f3, hv, ho3, _, y3⟩
  subst hv
  obtain ⟨s0, sp, sn, sc, sz, rfl, _, _⟩ := open_Signed ho3.reps (enc_code _)
  have l3 := y3.le
  refine ⟨_, _, _, _, rfl, y3, ?_⟩
  refine Ret.at (impl_RatMake_n (k := 1) (hr.ext (X.trans y3)) ho3.reps hx (by rw [digs_one]; decide) (by decide)) ?_
  rintro v w99 ⟨vs9, f9, hv, ho9, nd9, y99⟩
  subst hv
  obtain ⟨zb, zp, zn, zc, zz, zp2, zn2, zc2, zz2, rfl, _, _, _⟩ := open_Rat ho9.reps (redR_code _ _)
  obtain ⟨W', st', ld', ow', xx', _, _⟩ := agg_end (t := T_impl_Rat) ((b1.ext y3).ext y99) ((X.trans y3).trans y99) (by omega) ho9 (by kernel_rfl) rfl (by omega) (by omega)
  exact ⟨_, _, _, _, _, _, _, _, rfl, W', st', _, _, _, _, _, _, _, ld', _, f9, rfl, ow', nd9, xx'⟩
  
theorem spec_RatInt_n {w : World} {xs : List Value} {x : Int} (h : Reps w xs (enc x)) (hx : (digs x.natAbs).length ≤ 50) :
    Ret P n_spec_RatInt [.agg ⟨xs⟩] w fun v w' => ∃ vs f, v = .tuple #[.agg ⟨vs⟩, .bool (redOk (x) (1))] ∧ Owns w' w.heap.size vs (redR (x) (1)) f ∧ f.Nodup ∧ Ext w w' := by
  have hr := h
  obtain ⟨a0, p1, n1, c1, az, rfl, hd, i1⟩ := open_Signed h (enc_code _)
  refine spec_RatInt_ret ?_
  unfold spec_RatInt
  intro r w1 hn1 r1 w2 hn2
  have e1 := hn1.r_eq; have e2 := hn2.r_eq; have z1 := hn1.size; have z2 := hn2.size
  have D := Ext.drew w2
  have lD := D.le
  have X := (hn1.ext.trans hn2.ext).trans D
  have b0 := (hn1.blk.ext hn2.ext).ext D; have b1 := hn2.blk.ext D
  refine ⟨_, _, _, _, fun W hW => (b0.ext hW).loadA0 (by kernel_rfl), ?_⟩
  refine Ret.at (spec_IntOf_c (n := 1) (by omega) (by omega)) ?_
  rintro v w3 ⟨vs3, f3, hv, ho3, _, y3⟩
  subst hv
  obtain ⟨s0, sp, sn, sc, sz, rfl, _, _⟩ := open_Signed ho3.reps (enc_code _)
  have l3 := y3.le
  refine ⟨_, _, _, _, rfl, y3, ?_⟩
  refine Ret.at (spec_RatMake_n (k := 1) (hr.ext (X.trans y3)) ho3.reps hx (by rw [digs_one]; decide) (by decide)) ?_
  rintro v w99 ⟨vs9, f9, hv, ho9, nd9, y99⟩
  subst hv
  obtain ⟨zb, zp, zn, zc, zz, zp2, zn2, zc2, zz2, rfl, _, _, _⟩ := open_Rat ho9.reps (redR_code _ _)
  obtain ⟨W', st', ld', ow', xx', _, _⟩ := agg_end (t := T_impl_Rat) ((b1.ext y3).ext y99) ((X.trans y3).trans y99) (by omega) ho9 (by kernel_rfl) rfl (by omega) (by omega)
  exact ⟨_, _, _, _, _, _, _, _, rfl, W', st', _, _, _, _, _, _, _, ld', _, f9, rfl, ow', nd9, xx'⟩
  
end Go.Proofs.YtfemmmbkhhemaaaGreatDoor

namespace Go.Proofs.YtfemmmbkhhemaaaGreatDoor
open Go Go.Proofs.YtfemmmbkhhemaaaGreatDoor.Sx
set_option linter.unusedVariables false
set_option linter.unusedSimpArgs false
theorem impl_ratNeg_c {w : World} {xs : List Value} {dx : List D0} (h : Reps w xs dx) (hc : dx.map D0.code = [.bool, .ints, .ints]) (hok : ratOk dx = true) :
    Ret P n_impl_ratNeg [.agg ⟨xs⟩] w fun v w' => ∃ vs' f, v = .agg ⟨vs'⟩ ∧ Owns w' w.heap.size vs' (rmk (-(ratNum dx)) (ratDen dx)) f ∧ f.Nodup ∧ Ext w w' := by
  have ok := (ratOk_enc hok).2
  obtain ⟨p1, n1, c1, p2, n2, c2, rfl, i1, i2, g1, g2, he⟩ := rat_parts h hc hok
  refine impl_ratNeg_ret ?_
  unfold impl_ratNeg
  intro r w1 hn1 r1 w2 hn2
  have D := Ext.drew w2
  have X := (hn1.ext.trans hn2.ext).trans D
  have k0 := hn1.blk.ext hn2.ext; have k1 := hn2.blk.ext D
  have e2 := hn2.r_eq; have s1 := hn1.size; have s2 := hn2.size; have lD := D.le
  refine ⟨_, _, _, _, fun W hW => (k0.ext (D.trans hW)).loadAAt 0 [.bool (decide (ratNum dx < 0)), .slice p1 n1 c1] rfl (by kernel_rfl) rfl, ?_⟩
  refine Ret.at (impl_intNeg_c (he.ext X) (by omega)) ?_
  rintro v w3 ⟨vs, f, hv, ho, nd, y3⟩
  subst hv
  obtain ⟨b0, bp, bn, bc, bz, rfl, hq, hbr⟩ := open_Signed ho.reps (enc_code _)
  refine ⟨_, _, _, _, rfl, y3, _, _, _, fun W hW => (k0.ext (D.trans hW)).loadAt 2 rfl (by kernel_rfl) rfl, ?_⟩
  refine Ret.at (impl_natCopy_c (i2.ext (X.trans y3)) (by omega)) ?_
  rintro v w4 ⟨p, c, hv, ho2, y4⟩
  subst hv
  have l3 := y3.le; have l4 := y4.le
  obtain ⟨w5, st, hb5, ch, sz⟩ := ((k1.ext y3).ext y4).storeA0 (P := P) (t := T_impl_Rat) (xs := [.bool b0, .slice bp bn bc, .slice p n2 c]) (by kernel_rfl) rfl (by simp [Value.oneCell'])
  have q1 := (ho.ext y4).chg1 ch (by omega)
  have q2 := (Owns.ints ho2).chg1 ch (by omega)
  refine ⟨_, _, _, rfl, w5, st, _, _, _, _, _, _, _, hb5.loadA0 (by kernel_rfl), _, f ++ (p.map (·.block)).toList, rfl, ?_, ?_, ((X.trans y3).trans y4).chg ch (by simp; omega)⟩
  · rw [rmk_enc]; exact Owns.append (q1.mono (by omega)) (q2.mono (by omega))
  exact nodup_append nd (nodup_opt p) (m := w3.heap.size) (fun k hk => (ho.lt k hk).2) (fun k hk => ((Owns.ints ho2).lt k hk).1)
theorem spec_RatNeg_c {w : World} {xs : List Value} {dx : List D0} (h : Reps w xs dx) (hc : dx.map D0.code = [.bool, .ints, .ints]) (hok : ratOk dx = true) :
    Ret P n_spec_RatNeg [.agg ⟨xs⟩] w fun v w' => ∃ vs' f, v = .tuple #[.agg ⟨vs'⟩, .bool true] ∧ Owns w' w.heap.size vs' (rmk (-(ratNum dx)) (ratDen dx)) f ∧ Ext w w' := by
  have ok := (ratOk_enc hok).2
  have hr := h
  obtain ⟨p1, n1, c1, p2, n2, c2, rfl, i1, i2, g1, g2, he⟩ := rat_parts h hc hok
  refine spec_RatNeg_ret ?_
  unfold spec_RatNeg
  intro r w1 hn1 r1 w2 hn2
  have X2 := hn1.ext.trans hn2.ext
  refine ⟨_, _, _, _, _, _, _, (hn1.blk.ext hn2.ext).loadA0 (by kernel_rfl), ?_⟩
  refine Ret.at (spec_RatOk_c (hr.ext X2) hc) ?_
  rintro v w3 ⟨hv, y3⟩
  subst hv
  refine ⟨_, rfl, ifN (fun e => by rw [hok] at e; cases e) (fun _ => ?_)⟩
  have D := Ext.drew w3
  have X := (X2.trans y3).trans D
  have k0 := ((hn1.blk.ext hn2.ext).ext y3).ext D; have k1 := (hn2.blk.ext y3).ext D
  have e2 := hn2.r_eq; have s1 := hn1.size; have s2 := hn2.size; have lD := D.le; have ly3 := y3.le
  refine ⟨_, _, _, _, fun W hW => (k0.ext hW).loadAAt 0 [.bool (decide (ratNum dx < 0)), .slice p1 n1 c1] rfl (by kernel_rfl) rfl, ?_⟩
  intro ss w4 f1
  have hok' : intOk (enc (ratNum dx)) = true := by
    have := icap_ok (ratNum dx)
    rwa [icap_fit (by omega)] at this
  refine Ret.at (spec_IntNeg_c (he.ext (X.trans f1.ext)) hok') ?_
  rintro v w5 ⟨vs, f, hv, ho, nd, y5⟩
  subst hv
  have ho' := ho
  obtain ⟨b0, bp, bn, bc, bz, rfl, hq, hbr⟩ := open_Signed ho.reps (enc_code _)
  refine ⟨_, _, _, _, rfl, y5, _, _, _, fun W hW => (k0.ext hW).loadAt 2 rfl (by kernel_rfl) rfl, ?_⟩
  intro ss1 w6 r3 f2 g3
  have Y := (f1.ext.trans y5).trans f2.ext
  have hb3 : w3.drew.heap.size ≤ r3 ∧ Blk w6 r3 T_int [] := by
    have len0 := f1.len
    cases hs : ss[0]? with
    | none =>
      rw [List.getElem?_eq_none_iff, len0] at hs
      simp at hs
    | some v =>
      cases v with
      | some q =>
        obtain ⟨b, hq⟩ := f1.got (k := 0) rfl rfl hs
        have e := (f2.keeps hs).symm.trans g3
        have e : q = r3 := by simpa using e
        rw [e] at b hq
        exact ⟨b, (Blk.ext (show Blk w4 r3 T_int [] from hq) y5).ext f2.ext⟩
      | none =>
        obtain ⟨b, hq⟩ := f2.got (k := 0) hs rfl g3
        exact ⟨Nat.le_trans ((f1.ext.trans y5).le) b, hq⟩
  obtain ⟨p7, c7, w7, a7, o7, y7⟩ := append0 hb3.2 (i2.ext (X.trans Y)) (by omega)
  have Z := Y.trans y7
  have lZ := f1.ext.le
  obtain ⟨w8, st, hb8, ch, sz⟩ := (k1.ext Z).storeA0 (P := P) (t := T_impl_Rat) (xs := [.bool b0, .slice bp bn bc, .slice p7 n2 c7]) (by kernel_rfl) rfl (by simp [Value.oneCell'])
  have q1 := ((ho'.ext f2.ext).ext y7).chg1 ch (by omega)
  have q2 := (Owns.ints (o7.mono hb3.1)).chg1 ch (by omega)
  refine ⟨_, _, _, _, a7, w8, st, _, _, _, _, _, _, _, hb8.loadA0 (by kernel_rfl), _, f ++ (p7.map (·.block)).toList, rfl, ?_, (X.trans Z).chg ch (by simp; omega)⟩
  rw [rmk_enc]; exact Owns.append (q1.mono (by omega)) (q2.mono (by omega))
end Go.Proofs.YtfemmmbkhhemaaaGreatDoor

namespace Go.Proofs.YtfemmmbkhhemaaaGreatDoor
open Go Go.Proofs.YtfemmmbkhhemaaaGreatDoor.Sx
set_option linter.unusedVariables false
set_option linter.unusedSimpArgs false
theorem lt_of_len {x i : Nat} (h : (digs x).length ≤ i) : x < 1000000000 ^ i := by
  have h1 := val_lt (digs_limbs x)
  rw [val_digs] at h1
  have : ((x : Nat) : Int) < ((1000000000 ^ (digs x).length : Nat) : Int) := by simpa using h1
  exact Nat.lt_of_lt_of_le (Int.ofNat_lt.1 this) (Nat.pow_le_pow_right (by decide) h)
theorem sum_len {x y : Int} {i : Nat} (hx : (digs x.natAbs).length ≤ i) (hy : (digs y.natAbs).length ≤ i) : (digs (x + y).natAbs).length ≤ i + 1 := by
  apply digs_len
  have h1 := lt_of_len hx; have h2 := lt_of_len hy
  have h3 : (x + y).natAbs ≤ x.natAbs + y.natAbs := Int.natAbs_add_le x y
  rw [Nat.pow_succ]
  omega
theorem ratOk_neg {N : Int} {D : Nat} (h : ratOk (rmk N D) = true) : ratOk (rmk (-N) D) = true := by
  obtain ⟨_, h1, h2, h3, h4⟩ := ratOk_enc h
  rw [ratNum_rmk] at h2 h3
  rw [ratDen_rmk] at h1 h2 h4
  exact ratOk_rmk h1 (by rw [Int.natAbs_neg]; exact h2) (by rw [Int.natAbs_neg]; exact h3) h4
theorem cross_len {N : Int} {E : Nat} (hN : (digs N.natAbs).length ≤ 18) (hE : (digs E).length ≤ 18) : (digs (N * (E : Int)).natAbs).length ≤ 36 := by
  rw [Int.natAbs_mul, Int.natAbs_natCast]
  exact prod_len hN hE
/-- limbs don't lie in a struct of a sign and a slice -/
theorem IntsR.store2 {w w' : World} {r : Nat} {e : TypeId} {b : Bool} {q : Option Addr} {m d : Nat} {p : Option Addr} {n c : Nat} {z : List Int} (hb : Blk w r e [.bool b, .slice q m d]) (h : IntsR w p n c z) (ch : Chg [r] w w') : IntsR w' p n c z := by
  refine ⟨h.1, h.2.1, h.2.2.1, fun hn => ?_⟩
  obtain ⟨k, off, hp, hs⟩ := h.2.2.2 hn
  refine ⟨k, off, hp, hs.chg ch ?_⟩
  intro hm
  simp at hm
  subst hm
  have hl := h.1
  have h1 := hs 0 (.int .i64 (z[0]'(by omega))) (by simp [List.getElem?_eq_getElem (show 0 < z.length by omega)])
  rw [hb.cell] at h1
  generalize off + 0 = i at h1
  match i, h1 with
  | 0, h1 => simp at h1
  | 1, h1 => simp at h1
  | i + 2, h1 => simp at h1
theorem impl_Rat_num_n {w : World} {xs : List Value} {N : Int} {D E : Nat} {p : Option Addr} {m c : Nat} (h : Reps w xs (rmk N D)) (hok : ratOk (rmk N D) = true) (k : IntsR w p m c (digs E)) (hm : m ≤ 100) :
    Ret P n_impl_Rat_num [.agg ⟨xs⟩, .slice p m c] w fun v w' => ∃ vs f, v = .agg ⟨vs⟩ ∧ Owns w' w.heap.size vs (enc (N * E)) f ∧ f.Nodup ∧ Ext w w' := by
  obtain ⟨p1, n1, c1, q1, m1, d1, rfl, i1, i2, li1, li2, he, hd1⟩ := rmk_open h hok
  have ei1 := i1.1; have ek := k.1
  refine impl_Rat_num_ret ?_
  unfold impl_Rat_num
  intro r w1 hn1 r1 w2 hn2
  have e1 := hn1.r_eq; have e2 := hn2.r_eq; have z1 := hn1.size; have z2 := hn2.size
  have D := Ext.drew w2
  have lD := D.le
  have X := (hn1.ext.trans hn2.ext).trans D
  have b0 := (hn1.blk.ext hn2.ext).ext D; have b1 := hn2.blk.ext D
  refine ⟨_, fun W hW => (b0.ext hW).loadAt 0 rfl (by kernel_rfl) rfl, _, _, _, fun W hW => (b0.ext hW).loadAt 1 rfl (by kernel_rfl) rfl, ?_⟩
  refine Ret.at (impl_natMul_c (i1.ext X) (k.ext X) (digs_limbs _) (digs_limbs _) (by omega) (by omega)) ?_
  rintro v w4 ⟨p4, n4, c4, hv, o4, y4⟩
  subst hv
  rw [val_mul] at o4
  refine ⟨_, _, _, rfl, y4, ?_⟩
  refine Ret.at (impl_signed_c (neg := decide (N < 0)) o4.ints.1) ?_
  rintro v w5 ⟨hv, y5⟩
  subst hv
  have sg : N * (E : Int) ≠ 0 → decide (N < 0) = decide (N * (E : Int) < 0) := fun hh => by
    have := mul_sign hh
    rw [← this, decide_eq_false (show ¬ (E : Int) < 0 by omega)]
    cases decide (N < 0) <;> rfl
  obtain ⟨W', st, ld, ow, xx, _, _⟩ := agg_end (t := T_impl_Signed) ((b1.ext y4).ext y5) ((X.trans y4).trans y5) (by omega) (own_int (o4.ext y5) (z := N * (E : Int)) (by rw [Int.natAbs_mul, Int.natAbs_natCast]) sg) (by kernel_rfl) rfl (by omega) (by omega)
  exact ⟨_, _, _, _, rfl, W', st, _, _, _, _, ld, _, _, rfl, ow, nodup_opt p4, xx⟩
theorem impl_RatAdd_n {w : World} {xs ys : List Value} {N1 N2 : Int} {D1 D2 : Nat} (h : Reps w xs (rmk N1 D1)) (g : Reps w ys (rmk N2 D2)) (hok : ratOk (rmk N1 D1) = true) (gok : ratOk (rmk N2 D2) = true) :
    Ret P n_impl_RatAdd [.agg ⟨xs⟩, .agg ⟨ys⟩] w fun v w' => ∃ vs f, v = .tuple #[.agg ⟨vs⟩, .bool (redOk (N1 * D2 + N2 * D1) (D1 * D2))] ∧ Owns w' w.heap.size vs (redR (N1 * D2 + N2 * D1) (D1 * D2)) f ∧ f.Nodup ∧ Ext w w' := by
  have hr := h; have gr := g
  obtain ⟨p1, n1, c1, q1, m1, d1, rfl, i1, i2, li1, li2, he, hd1⟩ := rmk_open h hok
  obtain ⟨p2, n2, c2, q2, m2, d2, rfl, j1, j2, lj1, lj2, ke, hd2⟩ := rmk_open g gok
  have ei1 := i1.1; have ei2 := i2.1; have ej1 := j1.1; have ej2 := j2.1
  have pN := prod_len (x := N1.natAbs) (y := N2.natAbs) (i := 18) (j := 18) (by omega) (by omega)
  have pD := prod_len (x := D1) (y := D2) (i := 18) (j := 18) (by omega) (by omega)
  refine impl_RatAdd_ret ?_
  unfold impl_RatAdd
  intro r w1 hn1 r1 w2 hn2 r2 w3 hn3
  have e1 := hn1.r_eq; have e2 := hn2.r_eq; have e3 := hn3.r_eq; have z1 := hn1.size; have z2 := hn2.size; have z3 := hn3.size
  have X := (hn1.ext.trans hn2.ext).trans hn3.ext
  have b0 := (hn1.blk.ext hn2.ext).ext hn3.ext; have b1 := hn2.blk.ext hn3.ext; have b2 := hn3.blk
  refine ⟨_, _, _, _, _, _, _, b0.loadA0 (by kernel_rfl), _, _, _, _, _, _, _, b1.loadA0 (by kernel_rfl), ?_⟩
  refine Ret.at (impl_ratsOk_c (hr.ext X) (gr.ext X) hok gok) ?_
  rintro v w4 ⟨hv, y4⟩
  subst hv
  refine ⟨_, rfl, ifN (fun hh => absurd hh (by simp)) (fun _ => ?_)⟩
  have D := Ext.drew w4
  have Y := y4.trans D
  have X4 := X.trans Y
  have lY := Y.le
  have b0 := b0.ext Y; have b1 := b1.ext Y; have b2 := b2.ext Y
  have D' := Ext.drew w4.drew
  have X5 := X4.trans D'
  have lD' := D'.le
  have b0' := b0.ext D'; have b1' := b1.ext D'; have b2' := b2.ext D'
  refine ⟨_, _, _, _, _, _, _, fun W hW => (b0.ext hW).loadA0 (by kernel_rfl), _, _, _, _, _, _, _, fun W hW => (b1.ext hW).loadA0 (by kernel_rfl), _, _, _, fun W hW => (b1'.ext hW).loadAt 2 rfl (by kernel_rfl) rfl, _, _, _, rfl, by kernel_rfl, ?_⟩
  refine Calls.mono (impl_Rat_num_n (hr.ext X5) hok (j2.ext X5) (by omega)) ?_
  rintro e w5 ⟨v, he5, vs5, f5, hv, ho5, _, y5⟩
  subst hv
  obtain ⟨s0, sp, sn, sc, sz, rfl, _, _⟩ := open_Signed ho5.reps (enc_code _)
  refine ⟨_, _, _, _, he5, y5, _, _, _, fun W hW => (b0'.ext hW).loadAt 2 rfl (by kernel_rfl) rfl, _, _, _, rfl, by kernel_rfl, ?_⟩
  refine Calls.mono (impl_Rat_num_n (gr.ext (X5.trans y5)) gok (i2.ext (X5.trans y5)) (by omega)) ?_
  rintro e w6 ⟨v, he6, vs6, f6, hv, ho6, _, y6⟩
  subst hv
  obtain ⟨u0, up, un, uc, uz, rfl, _, _⟩ := open_Signed ho6.reps (enc_code _)
  refine ⟨_, _, _, _, he6, y6, ?_⟩
  have t1 := cross_len (N := N1) (E := D2) (by omega) (by omega)
  have t2 := cross_len (N := N2) (E := D1) (by omega) (by omega)
  have t3 := sum_len t1 t2
  refine Ret.at (impl_intAdd_c (ho5.reps.ext y6) ho6.reps (by omega) (by omega)) ?_
  rintro v w7 ⟨p7, n7, c7, hv, o7, y7⟩
  subst hv
  refine ⟨_, _, _, _, rfl, y7, _, _, _, fun W hW => (b0'.ext hW).loadAt 2 rfl (by kernel_rfl) rfl, _, _, _, fun W hW => (b1'.ext hW).loadAt 2 rfl (by kernel_rfl) rfl, ?_⟩
  have Y7 := (y5.trans y6).trans y7
  refine Ret.at (impl_natMul_c (i2.ext (X5.trans Y7)) (j2.ext (X5.trans Y7)) (digs_limbs _) (digs_limbs _) (by omega) (by omega)) ?_
  rintro v w8 ⟨p8, n8, c8, hv, o8, y8⟩
  subst hv
  rw [val_mul] at o8
  have l8 := o8.ints.1
  have lY7 := Y7.le; have ly8 := y8.le
  refine ⟨_, _, _, rfl, ?_⟩
  have hs : Reps w8 [.bool (decide (N1 * (D2 : Int) + N2 * (D1 : Int) < 0)), .slice p7 n7 c7] (enc (N1 * D2 + N2 * D1)) := ⟨rfl, ⟨_, _, _, rfl, o7.ints.ext y8⟩, trivial⟩
  refine Ret.at (impl_reduce_c hs o8.ints (Nat.mul_pos hd1 hd2) (by omega) (by omega)) ?_
  rintro v w99 ⟨vs9, f9, hv, ho9, nd9, y99⟩
  subst hv
  obtain ⟨zb, zp, zn, zc, zz, zp2, zn2, zc2, zz2, rfl, _, _, _⟩ := open_Rat ho9.reps (redR_code _ _)
  obtain ⟨W', st', ld', ow', xx', _, _⟩ := agg_end (t := T_impl_Rat) (((b2'.ext Y7).ext y8).ext y99) (((X5.trans Y7).trans y8).trans y99) (by omega) ho9 (by kernel_rfl) rfl (by omega) (by omega)
  exact ⟨_, _, _, _, _, _, _, _, rfl, W', st', _, _, _, _, _, _, _, ld', _, f9, rfl, ow', nd9, xx'⟩
  
theorem spec_RatAdd_n {w : World} {xs ys : List Value} {N1 N2 : Int} {D1 D2 : Nat} (h : Reps w xs (rmk N1 D1)) (g : Reps w ys (rmk N2 D2)) (hok : ratOk (rmk N1 D1) = true) (gok : ratOk (rmk N2 D2) = true) :
    Ret P n_spec_RatAdd [.agg ⟨xs⟩, .agg ⟨ys⟩] w fun v w' => ∃ vs f, v = .tuple #[.agg ⟨vs⟩, .bool (redOk (N1 * D2 + N2 * D1) (D1 * D2))] ∧ Owns w' w.heap.size vs (redR (N1 * D2 + N2 * D1) (D1 * D2)) f ∧ f.Nodup ∧ Ext w w' := by
  have hr := h; have gr := g
  obtain ⟨p1, n1, c1, q1, m1, d1, rfl, i1, i2, li1, li2, he, hd1⟩ := rmk_open h hok
  obtain ⟨p2, n2, c2, q2, m2, d2, rfl, j1, j2, lj1, lj2, ke, hd2⟩ := rmk_open g gok
  have ei1 := i1.1; have ei2 := i2.1; have ej1 := j1.1; have ej2 := j2.1
  have pN := prod_len (x := N1.natAbs) (y := N2.natAbs) (i := 18) (j := 18) (by omega) (by omega)
  have pD := prod_len (x := D1) (y := D2) (i := 18) (j := 18) (by omega) (by omega)
  refine spec_RatAdd_ret ?_
  unfold spec_RatAdd
  intro r w1 hn1 r1 w2 hn2 r2 w3 hn3
  have e1 := hn1.r_eq; have e2 := hn2.r_eq; have e3 := hn3.r_eq; have z1 := hn1.size; have z2 := hn2.size; have z3 := hn3.size
  have X := (hn1.ext.trans hn2.ext).trans hn3.ext
  have b0 := (hn1.blk.ext hn2.ext).ext hn3.ext; have b1 := hn2.blk.ext hn3.ext; have b2 := hn3.blk
  refine ⟨_, _, _, _, _, _, _, b0.loadA0 (by kernel_rfl), ?_⟩
  refine Ret.at (spec_RatOk_c (hr.ext X) (rmk_code _ _)) ?_
  rintro v w5 ⟨hv, y5⟩
  subst hv
  rw [hok]
  refine ⟨_, rfl, ifN (fun hh => absurd hh (by simp)) (fun _ => ⟨_, _, _, _, _, _, _, (b1.ext y5).loadA0 (by kernel_rfl), ?_⟩)⟩
  refine Ret.at (spec_RatOk_c (gr.ext (X.trans y5)) (rmk_code _ _)) ?_
  rintro v w4 ⟨hv, y4⟩
  subst hv
  rw [gok]
  refine ⟨_, rfl, ifN (fun hh => absurd hh (by simp)) (fun _ => ?_)⟩
  unfold spec_RatAdd_j0
  have D := Ext.drew w4
  have Y := (y5.trans y4).trans D
  have X4 := X.trans Y
  have lY := Y.le
  have b0 := b0.ext Y; have b1 := b1.ext Y; have b2 := b2.ext Y
  refine ⟨_, fun W hW => (b0.ext hW).loadAt 0 rfl (by kernel_rfl) rfl, _, _, _, fun W hW => (b0.ext hW).loadAt 1 rfl (by kernel_rfl) rfl, _, _, _, fun W hW => (b1.ext hW).loadAt 2 rfl (by kernel_rfl) rfl, ?_⟩
  intro ss1 a1 F11
  have S11 := (FlSt.start (o := .cells ⟨[.bool false, .slice none 0 0]⟩ T_impl_Signed (0, 0)) w4.drew).step F11
  refine Ret.at (spec_l02Mul_c (i1.ext (X4.trans F11.ext)) (j2.ext (X4.trans F11.ext)) (digs_limbs _) (digs_limbs _) (by omega) (by omega)) ?_
  rintro v a1b ⟨pa1, na1, ca1, hv, oa1, ya1⟩
  subst hv
  rw [val_digs, val_digs] at oa1
  have la1 := oa1.len
  simp only [List.length_map] at la1
  have ta1 := prod_len (x := N1.natAbs) (y := D2) (i := 18) (j := 18) (by omega) (by omega)
  rw [show N1.natAbs * D2 = ((N1.natAbs : Int) * D2).toNat by rw [← Int.natCast_mul, Int.toNat_natCast]] at ta1
  refine ⟨_, _, _, rfl, ya1, ?_⟩
  intro ss1' a1c F21
  have S21 := (S11.ext ya1).step F21
  refine Ret.at (prod_make (n := N1) (d := D2) (oa1.ints.ext F21.ext) hd2 (by omega)) ?_
  rintro v a1d ⟨ba1, pb1, nb1, cb1, hv, ra1, _, yb1⟩
  subst hv
  refine ⟨_, _, _, _, rfl, ?_⟩
  intro ss1'' a1e r1 F31 G1
  have S31 := (S21.ext yb1).step F31
  obtain ⟨hr1, hbk1⟩ := S31.get G1
  have B1 : Blk a1e r1 T_impl_Signed [.bool false, .slice none 0 0] := hbk1
  obtain ⟨a1f, st1, bb1, ch1, _⟩ := B1.storeA0 (P := P) (t := T_impl_Signed) (xs := [.bool ba1, .slice pb1 nb1 cb1]) (by kernel_rfl) rfl (by simp [Value.oneCell'])
  have Ya1 : Ext w4.drew a1f := S31.1.chg ch1 (by simp; exact hr1)
  have ia1 : Reps a1f [.bool ba1, .slice pb1 nb1 cb1] (enc (N1 * (D2 : Int))) := by
    obtain ⟨h0, ⟨p', n', c', hq, hi⟩, _⟩ := ra1
    cases hq
    exact ⟨h0, ⟨_, _, _, rfl, IntsR.store2 B1 (hi.ext F31.ext) ch1⟩, trivial⟩
  refine ⟨a1f, st1, ?_⟩
  have DA := Ext.drew a1f
  have YA := Ya1.trans DA
  have XA := X4.trans YA
  have c0 := b0.ext YA; have c1 := b1.ext YA; have c2 := b2.ext YA
  have lYA := YA.le
  refine ⟨_, fun W hW => (c1.ext hW).loadAt 0 rfl (by kernel_rfl) rfl, _, _, _, fun W hW => (c1.ext hW).loadAt 1 rfl (by kernel_rfl) rfl, _, _, _, fun W hW => (c0.ext hW).loadAt 2 rfl (by kernel_rfl) rfl, ?_⟩
  intro ss2 a2 F12
  have S12 := (FlSt.start (o := .cells ⟨[.bool false, .slice none 0 0]⟩ T_impl_Signed (0, 0)) a1f.drew).step F12
  refine Ret.at (spec_l02Mul_c (j1.ext (XA.trans F12.ext)) (i2.ext (XA.trans F12.ext)) (digs_limbs _) (digs_limbs _) (by omega) (by omega)) ?_
  rintro v a2b ⟨pa2, na2, ca2, hv, oa2, ya2⟩
  subst hv
  rw [val_digs, val_digs] at oa2
  have la2 := oa2.len
  simp only [List.length_map] at la2
  have ta2 := prod_len (x := N2.natAbs) (y := D1) (i := 18) (j := 18) (by omega) (by omega)
  rw [show N2.natAbs * D1 = ((N2.natAbs : Int) * D1).toNat by rw [← Int.natCast_mul, Int.toNat_natCast]] at ta2
  refine ⟨_, _, _, rfl, ya2, ?_⟩
  intro ss2' a2c F22
  have S22 := (S12.ext ya2).step F22
  refine Ret.at (prod_make (n := N2) (d := D1) (oa2.ints.ext F22.ext) hd1 (by omega)) ?_
  rintro v a2d ⟨ba2, pb2, nb2, cb2, hv, ra2, _, yb2⟩
  subst hv
  refine ⟨_, _, _, _, rfl, ?_⟩
  intro ss2'' a2e r2 F32 G2
  have S32 := (S22.ext yb2).step F32
  obtain ⟨hr2, hbk2⟩ := S32.get G2
  have B2 : Blk a2e r2 T_impl_Signed [.bool false, .slice none 0 0] := hbk2
  obtain ⟨a2f, st2, bb2, ch2, _⟩ := B2.storeA0 (P := P) (t := T_impl_Signed) (xs := [.bool ba2, .slice pb2 nb2 cb2]) (by kernel_rfl) rfl (by simp [Value.oneCell'])
  have Ya2 : Ext a1f.drew a2f := S32.1.chg ch2 (by simp; exact hr2)
  have ia2 : Reps a2f [.bool ba2, .slice pb2 nb2 cb2] (enc (N2 * (D1 : Int))) := by
    obtain ⟨h0, ⟨p', n', c', hq, hi⟩, _⟩ := ra2
    cases hq
    exact ⟨h0, ⟨_, _, _, rfl, IntsR.store2 B2 (hi.ext F32.ext) ch2⟩, trivial⟩
  refine ⟨a2f, st2, ?_⟩
  have XB := XA.trans Ya2
  have lYB := Ya2.le
  have g0 := c0.ext Ya2; have g1 := c1.ext Ya2; have g2 := c2.ext Ya2
  have k1 := (bb1.ext DA).ext Ya2
  have t1 := cross_len (N := N1) (E := D2) (by omega) (by omega)
  have t2 := cross_len (N := N2) (E := D1) (by omega) (by omega)
  have t3 := sum_len t1 t2
  refine ⟨_, _, _, _, k1.loadA0 (by kernel_rfl), _, _, _, _, bb2.loadA0 (by kernel_rfl), ?_⟩
  refine Ret.at (spec_l04Add_c ((ia1.ext DA).ext Ya2) ia2 (by omega) (by omega)) ?_
  rintro v w7 ⟨vs7, f7, hv, ho7, _, y7⟩
  subst hv
  rw [icap_fit (by omega)] at ho7
  have hr7 := ho7.reps
  obtain ⟨u0, up, un, uc, uz, rfl, hu, ui⟩ := open_Signed hr7 (enc_code _)
  simp only [enc, List.cons.injEq, D0.bool.injEq, D0.ints.injEq, and_true] at hu
  obtain ⟨rfl, rfl⟩ := hu
  refine ⟨_, _, _, _, rfl, ?_⟩
  intro r5 w8 hn8
  obtain ⟨w9, st9, hb9, y9⟩ := hn8.fill (P := P) (t := T_impl_Signed) (xs := [.bool (decide (N1 * (D2 : Int) + N2 * (D1 : Int) < 0)), .slice up un uc]) (by simp [Value.oneCell']) (by kernel_rfl) rfl
  refine ⟨w9, st9, ?_⟩
  have D9 := Ext.drew w9
  have Y9 := (y7.trans y9).trans D9
  have X9 := XB.trans Y9
  have lY9 := Y9.le
  have g0 := g0.ext Y9; have g1 := g1.ext Y9; have g2 := g2.ext Y9; have hb9 := hb9.ext D9
  have ui9 := (ui.ext y9).ext D9
  have lui := ui.1
  refine ⟨_, fun W hW => (hb9.ext hW).loadAt 0 rfl (by kernel_rfl) rfl, _, _, _, fun W hW => (hb9.ext hW).loadAt 1 rfl (by kernel_rfl) rfl, _, _, _, fun W hW => (g0.ext hW).loadAt 2 rfl (by kernel_rfl) rfl, _, _, _, fun W hW => (g1.ext hW).loadAt 2 rfl (by kernel_rfl) rfl, ?_⟩
  refine Ret.at (spec_l02Mul_c (i2.ext X9) (j2.ext X9) (digs_limbs _) (digs_limbs _) (by omega) (by omega)) ?_
  rintro v w10 ⟨p10, n10, c10, hv, o10, y10⟩
  subst hv
  rw [val_mul] at o10
  have l10 := o10.ints.1
  have ly10 := y10.le
  refine ⟨_, _, _, rfl, y10, ?_⟩
  refine Ret.at (spec_l05Low_c (n := N1 * D2 + N2 * D1) (ui9.ext y10) o10.ints (fun _ => rfl) (Nat.mul_pos hd1 hd2) (by omega) (by omega)) ?_
  rintro v w99 ⟨vs9, f9, hv, ho9, nd9, y99⟩
  subst hv
  obtain ⟨zb, zp, zn, zc, zz, zp2, zn2, zc2, zz2, rfl, _, _, _⟩ := open_Rat ho9.reps (redR_code _ _)
  obtain ⟨W', st', ld', ow', xx', _, _⟩ := agg_end (t := T_impl_Rat) ((g2.ext y10).ext y99) ((X9.trans y10).trans y99) (by omega) ho9 (by kernel_rfl) rfl (by omega) (by omega)
  exact ⟨_, _, _, _, _, _, _, _, rfl, W', st', _, _, _, _, _, _, _, ld', _, f9, rfl, ow', nd9, xx'⟩
  
theorem impl_RatSub_n {w : World} {xs ys : List Value} {N1 N2 : Int} {D1 D2 : Nat} (h : Reps w xs (rmk N1 D1)) (g : Reps w ys (rmk N2 D2)) (hok : ratOk (rmk N1 D1) = true) (gok : ratOk (rmk N2 D2) = true) :
    Ret P n_impl_RatSub [.agg ⟨xs⟩, .agg ⟨ys⟩] w fun v w' => ∃ vs f, v = .tuple #[.agg ⟨vs⟩, .bool (redOk (N1 * D2 + -N2 * D1) (D1 * D2))] ∧ Owns w' w.heap.size vs (redR (N1 * D2 + -N2 * D1) (D1 * D2)) f ∧ f.Nodup ∧ Ext w w' := by
  have hr := h; have gr := g
  obtain ⟨p1, n1, c1, q1, m1, d1, rfl, i1, i2, li1, li2, he, hd1⟩ := rmk_open h hok
  obtain ⟨p2, n2, c2, q2, m2, d2, rfl, j1, j2, lj1, lj2, ke, hd2⟩ := rmk_open g gok
  have ei1 := i1.1; have ei2 := i2.1; have ej1 := j1.1; have ej2 := j2.1
  have pN := prod_len (x := N1.natAbs) (y := N2.natAbs) (i := 18) (j := 18) (by omega) (by omega)
  have pD := prod_len (x := D1) (y := D2) (i := 18) (j := 18) (by omega) (by omega)
  refine impl_RatSub_ret ?_
  unfold impl_RatSub
  intro r w1 hn1 r1 w2 hn2 r2 w3 hn3
  have e1 := hn1.r_eq; have e2 := hn2.r_eq; have e3 := hn3.r_eq; have z1 := hn1.size; have z2 := hn2.size; have z3 := hn3.size
  have X := (hn1.ext.trans hn2.ext).trans hn3.ext
  have b0 := (hn1.blk.ext hn2.ext).ext hn3.ext; have b1 := hn2.blk.ext hn3.ext; have b2 := hn3.blk
  refine ⟨_, _, _, _, _, _, _, b0.loadA0 (by kernel_rfl), _, _, _, _, _, _, _, b1.loadA0 (by kernel_rfl), ?_⟩
  refine Ret.at (impl_ratsOk_c (hr.ext X) (gr.ext X) hok gok) ?_
  rintro v w4 ⟨hv, y4⟩
  subst hv
  refine ⟨_, rfl, ifN (fun hh => absurd hh (by simp)) (fun _ => ?_)⟩
  have D := Ext.drew w4
  have Y := y4.trans D
  have X4 := X.trans Y
  have lY := Y.le
  have b0 := b0.ext Y; have b1 := b1.ext Y; have b2 := b2.ext Y
  refine ⟨_, _, _, _, _, _, _, fun W hW => (b0.ext hW).loadA0 (by kernel_rfl), _, _, _, _, _, _, _, fun W hW => (b1.ext hW).loadA0 (by kernel_rfl), ?_⟩
  refine Ret.at (impl_ratNeg_c (gr.ext X4) (rmk_code _ _) gok) ?_
  rintro v w5 ⟨vs5, f5, hv, ho5, _, y5⟩
  subst hv
  rw [ratNum_rmk, ratDen_rmk] at ho5
  have hr5 := ho5.reps
  obtain ⟨s0, sp, sn, sc, sz, sp2, sn2, sc2, sz2, rfl, _, _, _⟩ := open_Rat hr5 (rmk_code _ _)
  have l5 := y5.le
  refine ⟨_, _, _, _, _, _, _, rfl, y5, ?_⟩
  refine Ret.at (impl_RatAdd_n (hr.ext (X4.trans y5)) hr5 hok (ratOk_neg gok)) ?_
  rintro v w99 ⟨vs9, f9, hv, ho9, nd9, y99⟩
  subst hv
  obtain ⟨zb, zp, zn, zc, zz, zp2, zn2, zc2, zz2, rfl, _, _, _⟩ := open_Rat ho9.reps (redR_code _ _)
  obtain ⟨W', st', ld', ow', xx', _, _⟩ := agg_end (t := T_impl_Rat) ((b2.ext y5).ext y99) ((X4.trans y5).trans y99) (by omega) ho9 (by kernel_rfl) rfl (by omega) (by omega)
  exact ⟨_, _, _, _, _, _, _, _, rfl, W', st', _, _, _, _, _, _, _, ld', _, f9, rfl, ow', nd9, xx'⟩
  
theorem spec_RatSub_n {w : World} {xs ys : List Value} {N1 N2 : Int} {D1 D2 : Nat} (h : Reps w xs (rmk N1 D1)) (g : Reps w ys (rmk N2 D2)) (hok : ratOk (rmk N1 D1) = true) (gok : ratOk (rmk N2 D2) = true) :
    Ret P n_spec_RatSub [.agg ⟨xs⟩, .agg ⟨ys⟩] w fun v w' => ∃ vs f, v = .tuple #[.agg ⟨vs⟩, .bool (redOk (N1 * D2 + -N2 * D1) (D1 * D2))] ∧ Owns w' w.heap.size vs (redR (N1 * D2 + -N2 * D1) (D1 * D2)) f ∧ f.Nodup ∧ Ext w w' := by
  have hr := h; have gr := g
  obtain ⟨p1, n1, c1, q1, m1, d1, rfl, i1, i2, li1, li2, he, hd1⟩ := rmk_open h hok
  obtain ⟨p2, n2, c2, q2, m2, d2, rfl, j1, j2, lj1, lj2, ke, hd2⟩ := rmk_open g gok
  have ei1 := i1.1; have ei2 := i2.1; have ej1 := j1.1; have ej2 := j2.1
  have pN := prod_len (x := N1.natAbs) (y := N2.natAbs) (i := 18) (j := 18) (by omega) (by omega)
  have pD := prod_len (x := D1) (y := D2) (i := 18) (j := 18) (by omega) (by omega)
  refine spec_RatSub_ret ?_
  unfold spec_RatSub
  intro r w1 hn1 r1 w2 hn2 r2 w3 hn3
  have e1 := hn1.r_eq; have e2 := hn2.r_eq; have e3 := hn3.r_eq; have z1 := hn1.size; have z2 := hn2.size; have z3 := hn3.size
  have X := (hn1.ext.trans hn2.ext).trans hn3.ext
  have b0 := (hn1.blk.ext hn2.ext).ext hn3.ext; have b1 := hn2.blk.ext hn3.ext; have b2 := hn3.blk
  refine ⟨_, _, _, _, _, _, _, b1.loadA0 (by kernel_rfl), ?_⟩
  refine Ret.at (spec_RatNeg_c (gr.ext X) (rmk_code _ _) gok) ?_
  rintro v w5 ⟨vs5, f5, hv, ho5, y5⟩
  subst hv
  rw [ratNum_rmk, ratDen_rmk] at ho5
  have hr5 := ho5.reps
  obtain ⟨s0, sp, sn, sc, sz, sp2, sn2, sc2, sz2, rfl, _, _, _⟩ := open_Rat hr5 (rmk_code _ _)
  refine ⟨_, _, _, _, _, _, _, _, rfl, ?_⟩
  intro r6 w6 hn6
  obtain ⟨w7, st7, hb7, y7⟩ := hn6.fill (P := P) (t := T_impl_Rat) (xs := [.bool s0, .slice sp sn sc, .slice sp2 sn2 sc2]) (by simp [Value.oneCell']) (by kernel_rfl) rfl
  refine ⟨w7, st7, ifN (fun hh => absurd hh (by simp)) (fun _ => ?_)⟩
  have Y := y5.trans y7
  have X4 := X.trans Y
  have lY := Y.le
  have b0 := b0.ext Y; have b1 := b1.ext Y; have b2 := b2.ext Y
  refine ⟨_, _, _, _, _, _, _, b0.loadA0 (by kernel_rfl), _, _, _, _, _, _, _, hb7.loadA0 (by kernel_rfl), ?_⟩
  refine Ret.at (spec_RatAdd_n (hr.ext X4) (hr5.ext y7) hok (ratOk_neg gok)) ?_
  rintro v w99 ⟨vs9, f9, hv, ho9, nd9, y99⟩
  subst hv
  obtain ⟨zb, zp, zn, zc, zz, zp2, zn2, zc2, zz2, rfl, _, _, _⟩ := open_Rat ho9.reps (redR_code _ _)
  obtain ⟨W', st', ld', ow', xx', _, _⟩ := agg_end (t := T_impl_Rat) ((b2).ext y99) ((X4).trans y99) (by omega) ho9 (by kernel_rfl) rfl (by omega) (by omega)
  exact ⟨_, _, _, _, _, _, _, _, rfl, W', st', _, _, _, _, _, _, _, ld', _, f9, rfl, ow', nd9, xx'⟩
  
end Go.Proofs.YtfemmmbkhhemaaaGreatDoor

namespace Go.Proofs.YtfemmmbkhhemaaaGreatDoor
open Go Go.Proofs.YtfemmmbkhhemaaaGreatDoor.Sx
set_option linter.unusedVariables false
set_option linter.unusedSimpArgs false
theorem spec_l02Add_k {w : World} {p q : Option Addr} {n c m d : Nat} {a b : List Int} (h : IntsR w p n c a) (k : IntsR w q m d b) (hca : Canon a) (hcb : Canon b) (hn : n ≤ 10000000) (hm : m ≤ 10000000) :
    Ret P n_spec_l02Add [.slice p n c, .slice q m d] w fun v w' => ∃ p' n' c' o, v = .slice p' n' c' ∧ IntsR w' p' n' c' o ∧ Canon o ∧ n' ≤ n + m + 1 ∧ val o = val a + val b ∧ Ext w w' := by
  refine spec_l02Add_ret ?_
  unfold spec_l02Add
  have hla := h.1; have hlb := k.1
  have ha := hca.1; have hb := hcb.1
  intro r w1 hn1
  let Inv : Option Addr → Nat → Nat → Int → Int → World → Prop := fun p on c carry i wr => ∃ (o : List Int), i = on ∧ on ≤ n + m + 1 ∧ (0 < carry → on ≤ n + m) ∧ Own wr w.heap.size T_int 1 p on c (o.map (Value.int .i64)) ∧ Ext w wr ∧ Limbs o ∧ o.length = on ∧ 0 ≤ carry ∧ carry ≤ 1 ∧ (n ≤ on ∧ m ≤ on ∧ carry = 0 ∧ 0 < on → o.getLast? ≠ some 0) ∧ val o + 1000000000 ^ on * carry = val (a.take on) + val (b.take on)
  refine ⟨Inv, fun _ _ _ _ i _ => n + m + 2 - i.toNat, ⟨[], rfl, by omega, by omega, Own.fresh hn1, hn1.ext, Limbs.nil, rfl, by omega, by omega, fun hh => absurd hh.2.2.2 (by omega), by simp [val]⟩, ?_⟩
  intro junk wr op j oc carry i ⟨o, hi, hjn, hcj, hown, hx, hlo, hol, hc0, hc1, hcan, hv⟩
  subst hi
  have A := ha.getD j; have B := hb.getD j
  have ab : (j : Int) < n ∨ a.getD j 0 = 0 := by
    by_cases e : j < n
    · left; omega
    · right; exact getD_beyond (by omega)
  have bb : (j : Int) < m ∨ b.getD j 0 = 0 := by
    by_cases e : j < m
    · left; omega
    · right; exact getD_beyond (by omega)
  have J2 : ∀ t, t = carry + a.getD j 0 + b.getD j 0 → (j < n ∨ j < m ∨ 0 < carry) → spec_l02Add_j2 wr Inv (fun _ _ _ _ i _ => n + m + 2 - i.toNat) op j oc carry j t wr fun v w' => ∃ p' n' c' o, v = .slice p' n' c' ∧ IntsR w' p' n' c' o ∧ Canon o ∧ n' ≤ n + m + 1 ∧ val o = val a + val b ∧ Ext w w' := by
    intro t ht hlt
    unfold spec_l02Add_j2
    refine ⟨by decide, _, rfl, fun r1 w2 hn2 => ?_⟩
    rw [tmod_limb (by omega)] at hn2
    obtain ⟨p', c', w3, g1, g2, g3⟩ := Own.push hown hx.le hn2 (by omega)
    refine ⟨_, _, _, _, g1, by decide, ?_⟩
    rw [tdiv_limb (by omega)]
    have hcar : 0 < t / 1000000000 → j < n ∨ j < m := by
      intro h0
      by_cases e : j < n
      · exact .inl e
      · by_cases e2 : j < m
        · exact .inr e2
        · have e3 := ab.resolve_left (by omega); have e4 := bb.resolve_left (by omega)
          rw [e3, e4] at ht; omega
    have hnew : n ≤ j + 1 ∧ m ≤ j + 1 ∧ t / 1000000000 = 0 ∧ 0 < j + 1 → (o ++ [t % 1000000000]).getLast? ≠ some 0 := by
      intro hh
      rw [List.getLast?_concat]
      intro e
      have e := Option.some.inj e
      have : 1 ≤ t := by
        rcases hlt with h1 | h1 | h1
        · have := canon_top hca (show a.length = j + 1 by omega)
          omega
        · have := canon_top hcb (show b.length = j + 1 by omega)
          omega
        · omega
      omega
    refine exW ⟨by omega, by omega⟩ (exW ⟨by omega, by omega⟩ ⟨⟨o ++ [t % 1000000000], by omega, by rcases hlt with h | h | h <;> omega, fun h0 => by rcases hcar h0 with h | h <;> omega, g2, g3 w hx (Nat.le_refl _), hlo.snoc (limb_mod t), by simp [hol], by omega, by omega, hnew, add_step hol hv ht⟩, ?_⟩)
    show n + m + 2 - ((j : Int) + 1).toNat < n + m + 2 - (j : Int).toNat
    rcases hlt with h | h | h <;> omega
  have J1 : ∀ t, t = carry + a.getD j 0 → (j < n ∨ j < m ∨ 0 < carry) → spec_l02Add_j1 q m wr Inv (fun _ _ _ _ i _ => n + m + 2 - i.toNat) op j oc carry j t wr fun v w' => ∃ p' n' c' o, v = .slice p' n' c' ∧ IntsR w' p' n' c' o ∧ Canon o ∧ n' ≤ n + m + 1 ∧ val o = val a + val b ∧ Ext w w' := by
    intro t ht hlt
    unfold spec_l02Add_j1
    refine ifD (fun hlm => ?_) (fun hge => J2 _ (by rw [bb.resolve_left hge]; omega) hlt)
    obtain ⟨ad, rfl, hl⟩ := ints_at (k.ext hx) (i := (j : Int)) (by omega) hlm
    exact ⟨⟨by omega, by omega⟩, _, hl, exW ⟨by simp only [Int.toNat_natCast]; omega, by simp only [Int.toNat_natCast]; omega⟩ (J2 _ (by simp only [Int.toNat_natCast]; omega) hlt)⟩
  have J0 : (j < n ∨ j < m ∨ 0 < carry) → spec_l02Add_j0 p n q m wr Inv (fun _ _ _ _ i _ => n + m + 2 - i.toNat) op j oc carry j wr fun v w' => ∃ p' n' c' o, v = .slice p' n' c' ∧ IntsR w' p' n' c' o ∧ Canon o ∧ n' ≤ n + m + 1 ∧ val o = val a + val b ∧ Ext w w' := by
    intro hlt
    unfold spec_l02Add_j0
    refine ifD (fun hln => ?_) (fun hge => J1 _ (by rw [ab.resolve_left hge]; omega) hlt)
    obtain ⟨ad, hp, hl⟩ := ints_at (h.ext hx) (i := (j : Int)) (by omega) hln
    subst hp
    exact ⟨⟨by omega, by omega⟩, _, hl, exW ⟨by simp only [Int.toNat_natCast]; omega, by simp only [Int.toNat_natCast]; omega⟩ (J1 _ (by simp only [Int.toNat_natCast]) hlt)⟩
  have fin : ¬ (j : Int) < n → ¬ (j : Int) < m → ¬ 0 < carry → ∃ p' n' c' o, Value.slice op j oc = .slice p' n' c' ∧ IntsR wr p' n' c' o ∧ Canon o ∧ n' ≤ n + m + 1 ∧ val o = val a + val b ∧ Ext w wr := by
    intro h1 h2 h3
    have hc : carry = 0 := by omega
    subst hc
    rw [List.take_of_length_le (by omega), List.take_of_length_le (by omega)] at hv
    have hlast : o.getLast? ≠ some 0 := by
      rcases Nat.eq_zero_or_pos j with hj0 | hj0
      · have : o = [] := List.eq_nil_of_length_eq_zero (by omega)
        rw [this]; simp
      · exact hcan ⟨by omega, by omega, rfl, hj0⟩
    exact ⟨_, _, _, o, rfl, hown.ints, ⟨hlo, hlast⟩, hjn, by omega, hx⟩
  exact ifD (fun h1 => ifT (ifT (J0 (.inl (by omega))))) (fun h1 => ifD (fun h2 => ifT (J0 (.inr (.inl (by omega))))) (fun h2 => ifD (fun h3 => J0 (.inr (.inr h3))) (fun h3 => fin h1 h2 h3)))
theorem spec_l02Add_n {w : World} {p q : Option Addr} {n c m d : Nat} {x y : Nat} (h : IntsR w p n c (digs x)) (k : IntsR w q m d (digs y)) (hn : n ≤ 1000) (hm : m ≤ 1000) :
    Ret P n_spec_l02Add [.slice p n c, .slice q m d] w fun v w' => ∃ p' n' c', v = .slice p' n' c' ∧ IntsR w' p' n' c' (digs (x + y)) ∧ Ext w w' := by
  refine (spec_l02Add_k h k (digs_canon x) (digs_canon y) (by omega) (by omega)).mono ?_
  rintro v w' ⟨p', n', c', o, hv, hi, hc, _, hval, y'⟩
  have e : o = digs (x + y) := by
    rw [val_digs, val_digs] at hval
    refine canon_inj hc (digs_canon _) ?_
    rw [hval, val_digs, Int.natCast_add]
  subst e
  exact ⟨p', n', c', hv, hi, y'⟩
theorem digs_one_r {W : World} {r : Nat} (hb : Blk W r T_int [.int .i64 1]) : IntsR W (some ⟨r, 0, none⟩) 1 1 (digs 1) := by
  rw [digs_one]
  exact ⟨rfl, Nat.le_refl _, by omega, fun _ => ⟨_, 0, rfl, hb.seg⟩⟩
theorem val_add' (m k : Nat) : (val (digs m) + val (digs k)).toNat = m + k := by rw [val_digs, val_digs, ← Int.natCast_add, Int.toNat_natCast]
theorem odd_even (q : Nat) : (!(decide (q % 2 = 0))) = decide (q % 2 = 1) := by
  rcases Nat.mod_two_eq_zero_or_one q with h | h <;> simp [h]
theorem impl_NatEven_n {w : World} {p : Option Addr} {n c q : Nat} (h : IntsR w p n c (digs q)) (hn : n ≤ 50) :
    Ret P n_impl_NatEven [.slice p n c] w fun v w' => v = .bool (decide (q % 2 = 0)) ∧ Ext w w' := by
  have hl := h.1
  refine impl_NatEven_ret ?_
  unfold impl_NatEven
  refine Ret.at (impl_NatOk_c h) ?_
  rintro v w1 ⟨hv, y1⟩
  subst hv
  rw [natOk_spec.2 ⟨digs_canon q, by omega⟩]
  refine ⟨_, rfl, ifT (ifD (fun h0 => ⟨?_, y1⟩) (fun h0 => ?_))⟩
  · have : q % 2 = 0 := even_head.1 (.inl (by omega))
    rw [decide_eq_true this]
  · obtain ⟨ad, hp', hld⟩ := (h.ext y1).at (P := P) (t := T_int) (by kernel_rfl) (k := 0) (by omega)
    subst hp'
    have hx := digs_limbs q _ (List.getElem_mem (show 0 < (digs q).length by omega))
    refine ⟨⟨by omega, by omega⟩, _, by simpa using hld, by decide, _, rfl, ?_, y1⟩
    rw [Int.tmod_eq_emod_of_nonneg hx.1]
    have e : (digs q)[0]'(by omega) = (digs q).getD 0 0 := by rw [List.getD_eq_getElem?_getD, List.getElem?_eq_getElem (by omega)]; rfl
    rw [e]
    exact congrArg Value.bool (decide_eq_decide.2 ⟨fun hh => even_head.1 (.inr hh), fun hh => (even_head.2 hh).resolve_left (by omega)⟩)
theorem spec_NatEven_n {w : World} {p : Option Addr} {n c q : Nat} (h : IntsR w p n c (digs q)) (hn : n ≤ 50) :
    Ret P n_spec_NatEven [.slice p n c] w fun v w' => v = .bool (decide (q % 2 = 0)) ∧ Ext w w' := by
  have hl := h.1
  refine spec_NatEven_ret ?_
  unfold spec_NatEven
  refine Ret.at (spec_NatOk_c h) ?_
  rintro v w1 ⟨hv, y1⟩
  subst hv
  rw [natOk_spec.2 ⟨digs_canon q, by omega⟩]
  refine ⟨_, rfl, ifT (ifD (fun h0 => ⟨?_, y1⟩) (fun h0 => ?_))⟩
  · have : q % 2 = 0 := even_head.1 (.inl (by omega))
    rw [decide_eq_true this]
  · obtain ⟨ad, hp', hld⟩ := (h.ext y1).at (P := P) (t := T_int) (by kernel_rfl) (k := 0) (by omega)
    subst hp'
    have hx := digs_limbs q _ (List.getElem_mem (show 0 < (digs q).length by omega))
    refine ⟨⟨by omega, by omega⟩, _, by simpa using hld, by decide, _, rfl, ?_, y1⟩
    rw [Int.tmod_eq_emod_of_nonneg hx.1]
    have e : (digs q)[0]'(by omega) = (digs q).getD 0 0 := by rw [List.getD_eq_getElem?_getD, List.getElem?_eq_getElem (by omega)]; rfl
    rw [e]
    exact congrArg Value.bool (decide_eq_decide.2 ⟨fun hh => even_head.1 (.inr hh), fun hh => (even_head.2 hh).resolve_left (by omega)⟩)
theorem impl_roundModes_1_n (neg : Bool) (half : Int) (odd : Bool) (w : World) : Ret P n_impl_roundModes_1 [.bool neg, .int .i64 half, .bool odd] w fun v w' => v = .bool (modeAway 0 neg half odd) ∧ w' = w := by
  refine impl_roundModes_1_ret ?_
  unfold impl_roundModes_1
  exact ⟨rfl, rfl⟩
theorem impl_roundModes_2_n (neg : Bool) (half : Int) (odd : Bool) (w : World) : Ret P n_impl_roundModes_2 [.bool neg, .int .i64 half, .bool odd] w fun v w' => v = .bool (modeAway 1 neg half odd) ∧ w' = w := by
  refine impl_roundModes_2_ret ?_
  unfold impl_roundModes_2
  exact ⟨rfl, rfl⟩
theorem impl_roundModes_3_n (neg : Bool) (half : Int) (odd : Bool) (w : World) : Ret P n_impl_roundModes_3 [.bool neg, .int .i64 half, .bool odd] w fun v w' => v = .bool (modeAway 2 neg half odd) ∧ w' = w := by
  refine impl_roundModes_3_ret ?_
  unfold impl_roundModes_3
  exact ⟨rfl, rfl⟩
theorem impl_roundModes_4_n (neg : Bool) (half : Int) (odd : Bool) (w : World) : Ret P n_impl_roundModes_4 [.bool neg, .int .i64 half, .bool odd] w fun v w' => v = .bool (modeAway 3 neg half odd) ∧ w' = w := by
  refine impl_roundModes_4_ret ?_
  unfold impl_roundModes_4
  exact ⟨rfl, rfl⟩
theorem impl_roundModes_5_n (neg : Bool) (half : Int) (odd : Bool) (w : World) : Ret P n_impl_roundModes_5 [.bool neg, .int .i64 half, .bool odd] w fun v w' => v = .bool (modeAway 4 neg half odd) ∧ w' = w := by
  refine impl_roundModes_5_ret ?_
  unfold impl_roundModes_5
  exact ⟨rfl, rfl⟩
theorem impl_roundModes_6_n (neg : Bool) (half : Int) (odd : Bool) (w : World) : Ret P n_impl_roundModes_6 [.bool neg, .int .i64 half, .bool odd] w fun v w' => v = .bool (modeAway 5 neg half odd) ∧ w' = w := by
  refine impl_roundModes_6_ret ?_
  unfold impl_roundModes_6
  exact ⟨rfl, rfl⟩
theorem impl_roundModes_7_n (neg : Bool) (half : Int) (odd : Bool) (w : World) : Ret P n_impl_roundModes_7 [.bool neg, .int .i64 half, .bool odd] w fun v w' => v = .bool (modeAway 6 neg half odd) ∧ w' = w := by
  refine impl_roundModes_7_ret ?_
  unfold impl_roundModes_7
  refine ifD (fun h => ⟨?_, rfl⟩) (fun h => ifD (fun h0 => ⟨?_, rfl⟩) (fun h0 => ⟨?_, rfl⟩))
  · simp [modeAway, h]
  · simp [modeAway, h0]
  · simp [modeAway, h, h0]
def modeCells : List Value := [.string (S [100, 111, 119, 110]), .func (.func n_impl_roundModes_1) #[] #[], .string (S [117, 112]), .func (.func n_impl_roundModes_2) #[] #[], .string (S [102, 108, 111, 111, 114]), .func (.func n_impl_roundModes_3) #[] #[], .string (S [99, 101, 105, 108]), .func (.func n_impl_roundModes_4) #[] #[], .string (S [104, 97, 108, 102, 100, 111, 119, 110]), .func (.func n_impl_roundModes_5) #[] #[], .string (S [104, 97, 108, 102, 117, 112]), .func (.func n_impl_roundModes_6) #[] #[], .string (S [104, 97, 108, 102, 101, 118, 101, 110]), .func (.func n_impl_roundModes_7) #[] #[]]
theorem impl_roundModes_n (w : World) : Ret P n_impl_roundModes [] w fun v w' => v = .agg ⟨modeCells⟩ ∧ Ext w w' := by
  refine impl_roundModes_ret ?_
  unfold impl_roundModes
  intro r w1 hn1
  obtain ⟨w2, st, hb2, y2⟩ := hn1.fill (P := P) (t := T_7_impl_roundMode) (xs := modeCells) (by simp [modeCells, Value.oneCell']) (by kernel_rfl) rfl
  exact ⟨w2, st, _, _, _, _, _, _, _, _, _, _, _, _, _, _, hb2.loadA0 (by kernel_rfl), rfl, y2⟩
/-- the closure of a mode, called -/
theorem mode_call {m : Int} (h0 : 0 ≤ m) (h1 : m ≤ 6) (neg : Bool) (half : Int) (odd : Bool) : ∃ fl : Value, (∀ K : Value → Prop, K fl → indexS P T_7_impl_roundMode (.agg ⟨modeCells⟩) (.int .i64 m) fun el => fieldS P T_impl_roundMode el 1 fun f => K f) ∧
    ∀ (w : World) (Q : Ending → World → Prop), Q (.returned (.bool (modeAway m neg half odd))) w → CallW P fl [.bool neg, .int .i64 half, .bool odd] w Q := by
  have hm : m = 0 ∨ m = 1 ∨ m = 2 ∨ m = 3 ∨ m = 4 ∨ m = 5 ∨ m = 6 := by omega
  rcases hm with rfl | rfl | rfl | rfl | rfl | rfl | rfl
  · refine ⟨.func (.func n_impl_roundModes_1) #[] #[], fun K hK => ?_, fun w Q hQ => ?_⟩
    · have e : (indexS P T_7_impl_roundMode (.agg ⟨modeCells⟩) (.int .i64 0) fun el => fieldS P T_impl_roundMode el 1 fun f => K f) = (((0 : Int) ≤ 0 ∧ (0 : Int) < (7 : Nat)) ∧ ∃ v, (Value.agg #[modeCells.getD 0 .nilFunc, modeCells.getD 1 .nilFunc] = v) ∧ fieldS P T_impl_roundMode v 1 fun f => K f) := by kernel_rfl
      rw [e]
      refine ⟨⟨by omega, by omega⟩, _, rfl, ?_⟩
      have e2 : (fieldS P T_impl_roundMode (Value.agg #[modeCells.getD 0 .nilFunc, modeCells.getD 1 .nilFunc]) 1 fun f => K f) = K (modeCells.getD 1 .nilFunc) := by kernel_rfl
      rw [e2]
      exact hK
    · refine ⟨_, [], [], rfl, by kernel_rfl, Calls.mono (impl_roundModes_1_n neg half odd w) ?_⟩
      rintro e w' ⟨v, he, hv, hw⟩
      subst he; subst hv; subst hw
      exact hQ
  · refine ⟨.func (.func n_impl_roundModes_2) #[] #[], fun K hK => ?_, fun w Q hQ => ?_⟩
    · have e : (indexS P T_7_impl_roundMode (.agg ⟨modeCells⟩) (.int .i64 1) fun el => fieldS P T_impl_roundMode el 1 fun f => K f) = (((0 : Int) ≤ 1 ∧ (1 : Int) < (7 : Nat)) ∧ ∃ v, (Value.agg #[modeCells.getD 2 .nilFunc, modeCells.getD 3 .nilFunc] = v) ∧ fieldS P T_impl_roundMode v 1 fun f => K f) := by kernel_rfl
      rw [e]
      refine ⟨⟨by omega, by omega⟩, _, rfl, ?_⟩
      have e2 : (fieldS P T_impl_roundMode (Value.agg #[modeCells.getD 2 .nilFunc, modeCells.getD 3 .nilFunc]) 1 fun f => K f) = K (modeCells.getD 3 .nilFunc) := by kernel_rfl
      rw [e2]
      exact hK
    · refine ⟨_, [], [], rfl, by kernel_rfl, Calls.mono (impl_roundModes_2_n neg half odd w) ?_⟩
      rintro e w' ⟨v, he, hv, hw⟩
      subst he; subst hv; subst hw
      exact hQ
  · refine ⟨.func (.func n_impl_roundModes_3) #[] #[], fun K hK => ?_, fun w Q hQ => ?_⟩
    · have e : (indexS P T_7_impl_roundMode (.agg ⟨modeCells⟩) (.int .i64 2) fun el => fieldS P T_impl_roundMode el 1 fun f => K f) = (((0 : Int) ≤ 2 ∧ (2 : Int) < (7 : Nat)) ∧ ∃ v, (Value.agg #[modeCells.getD 4 .nilFunc, modeCells.getD 5 .nilFunc] = v) ∧ fieldS P T_impl_roundMode v 1 fun f => K f) := by kernel_rfl
      rw [e]
      refine ⟨⟨by omega, by omega⟩, _, rfl, ?_⟩
      have e2 : (fieldS P T_impl_roundMode (Value.agg #[modeCells.getD 4 .nilFunc, modeCells.getD 5 .nilFunc]) 1 fun f => K f) = K (modeCells.getD 5 .nilFunc) := by kernel_rfl
      rw [e2]
      exact hK
    · refine ⟨_, [], [], rfl, by kernel_rfl, Calls.mono (impl_roundModes_3_n neg half odd w) ?_⟩
      rintro e w' ⟨v, he, hv, hw⟩
      subst he; subst hv; subst hw
      exact hQ
  · refine ⟨.func (.func n_impl_roundModes_4) #[] #[], fun K hK => ?_, fun w Q hQ => ?_⟩
    · have e : (indexS P T_7_impl_roundMode (.agg ⟨modeCells⟩) (.int .i64 3) fun el => fieldS P T_impl_roundMode el 1 fun f => K f) = (((0 : Int) ≤ 3 ∧ (3 : Int) < (7 : Nat)) ∧ ∃ v, (Value.agg #[modeCells.getD 6 .nilFunc, modeCells.getD 7 .nilFunc] = v) ∧ fieldS P T_impl_roundMode v 1 fun f => K f) := by kernel_rfl
      rw [e]
      refine ⟨⟨by omega, by omega⟩, _, rfl, ?_⟩
      have e2 : (fieldS P T_impl_roundMode (Value.agg #[modeCells.getD 6 .nilFunc, modeCells.getD 7 .nilFunc]) 1 fun f => K f) = K (modeCells.getD 7 .nilFunc) := by kernel_rfl
      rw [e2]
      exact hK
    · refine ⟨_, [], [], rfl, by kernel_rfl, Calls.mono (impl_roundModes_4_n neg half odd w) ?_⟩
      rintro e w' ⟨v, he, hv, hw⟩
      subst he; subst hv; subst hw
      exact hQ
  · refine ⟨.func (.func n_impl_roundModes_5) #[] #[], fun K hK => ?_, fun w Q hQ => ?_⟩
    · have e : (indexS P T_7_impl_roundMode (.agg ⟨modeCells⟩) (.int .i64 4) fun el => fieldS P T_impl_roundMode el 1 fun f => K f) = (((0 : Int) ≤ 4 ∧ (4 : Int) < (7 : Nat)) ∧ ∃ v, (Value.agg #[modeCells.getD 8 .nilFunc, modeCells.getD 9 .nilFunc] = v) ∧ fieldS P T_impl_roundMode v 1 fun f => K f) := by kernel_rfl
      rw [e]
      refine ⟨⟨by omega, by omega⟩, _, rfl, ?_⟩
      have e2 : (fieldS P T_impl_roundMode (Value.agg #[modeCells.getD 8 .nilFunc, modeCells.getD 9 .nilFunc]) 1 fun f => K f) = K (modeCells.getD 9 .nilFunc) := by kernel_rfl
      rw [e2]
      exact hK
    · refine ⟨_, [], [], rfl, by kernel_rfl, Calls.mono (impl_roundModes_5_n neg half odd w) ?_⟩
      rintro e w' ⟨v, he, hv, hw⟩
      subst he; subst hv; subst hw
      exact hQ
  · refine ⟨.func (.func n_impl_roundModes_6) #[] #[], fun K hK => ?_, fun w Q hQ => ?_⟩
    · have e : (indexS P T_7_impl_roundMode (.agg ⟨modeCells⟩) (.int .i64 5) fun el => fieldS P T_impl_roundMode el 1 fun f => K f) = (((0 : Int) ≤ 5 ∧ (5 : Int) < (7 : Nat)) ∧ ∃ v, (Value.agg #[modeCells.getD 10 .nilFunc, modeCells.getD 11 .nilFunc] = v) ∧ fieldS P T_impl_roundMode v 1 fun f => K f) := by kernel_rfl
      rw [e]
      refine ⟨⟨by omega, by omega⟩, _, rfl, ?_⟩
      have e2 : (fieldS P T_impl_roundMode (Value.agg #[modeCells.getD 10 .nilFunc, modeCells.getD 11 .nilFunc]) 1 fun f => K f) = K (modeCells.getD 11 .nilFunc) := by kernel_rfl
      rw [e2]
      exact hK
    · refine ⟨_, [], [], rfl, by kernel_rfl, Calls.mono (impl_roundModes_6_n neg half odd w) ?_⟩
      rintro e w' ⟨v, he, hv, hw⟩
      subst he; subst hv; subst hw
      exact hQ
  · refine ⟨.func (.func n_impl_roundModes_7) #[] #[], fun K hK => ?_, fun w Q hQ => ?_⟩
    · have e : (indexS P T_7_impl_roundMode (.agg ⟨modeCells⟩) (.int .i64 6) fun el => fieldS P T_impl_roundMode el 1 fun f => K f) = (((0 : Int) ≤ 6 ∧ (6 : Int) < (7 : Nat)) ∧ ∃ v, (Value.agg #[modeCells.getD 12 .nilFunc, modeCells.getD 13 .nilFunc] = v) ∧ fieldS P T_impl_roundMode v 1 fun f => K f) := by kernel_rfl
      rw [e]
      refine ⟨⟨by omega, by omega⟩, _, rfl, ?_⟩
      have e2 : (fieldS P T_impl_roundMode (Value.agg #[modeCells.getD 12 .nilFunc, modeCells.getD 13 .nilFunc]) 1 fun f => K f) = K (modeCells.getD 13 .nilFunc) := by kernel_rfl
      rw [e2]
      exact hK
    · refine ⟨_, [], [], rfl, by kernel_rfl, Calls.mono (impl_roundModes_7_n neg half odd w) ?_⟩
      rintro e w' ⟨v, he, hv, hw⟩
      subst he; subst hv; subst hw
      exact hQ
end Go.Proofs.YtfemmmbkhhemaaaGreatDoor

namespace Go.Proofs.YtfemmmbkhhemaaaGreatDoor
open Go Go.Proofs.YtfemmmbkhhemaaaGreatDoor.Sx
set_option linter.unusedVariables false
set_option linter.unusedSimpArgs false
def modeOk (m : Int) : Bool := decide (0 ≤ m ∧ m ≤ 6)
theorem rround_sign {n : Int} {d : Nat} {m : Int} (h : rround n d m ≠ 0) : decide (n < 0) = decide (rround n d m < 0) := by
  have e : rround n d m = if n < 0 then -((roundM n d m : Nat) : Int) else ((roundM n d m : Nat) : Int) := rfl
  by_cases hn : n < 0
  · rw [if_pos hn] at e
    rw [decide_eq_true hn, decide_eq_true (show rround n d m < 0 by omega)]
  · rw [if_neg hn] at e
    rw [decide_eq_false hn, decide_eq_false (show ¬ rround n d m < 0 by omega)]
theorem roundM_len {n : Int} {d : Nat} {m : Int} {k : Nat} (hd : 0 < d) (h : (digs n.natAbs).length ≤ k) : (digs (roundM n d m)).length ≤ k + 1 := by
  apply digs_len
  have h1 := lt_of_len h
  have h2 := roundM_le n d m
  have h3 := Nat.div_le_self n.natAbs d
  have h4 : 0 < 1000000000 ^ k := Nat.pow_pos (by decide)
  rw [Nat.pow_succ]
  omega
theorem impl_isMode_c (m : Int) (w : World) : Ret P n_impl_isMode [.int .i64 m] w fun v w' => v = .bool (modeOk m) ∧ w' = w := by
  refine impl_isMode_ret ?_
  unfold impl_isMode
  refine ifD (fun h => ⟨?_, rfl⟩) (fun h => ⟨?_, rfl⟩)
  · exact congrArg Value.bool (decide_eq_decide.2 (by omega))
  · rw [modeOk, decide_eq_false (by omega)]
theorem spec_l06Mode_c (m : Int) (w : World) : Ret P n_spec_l06Mode [.int .i64 m] w fun v w' => v = .bool (modeOk m) ∧ w' = w := by
  refine spec_l06Mode_ret ?_
  unfold spec_l06Mode
  refine Ret.at (spec_l01In_c m 0 6 w) ?_
  rintro v w1 ⟨hv, hw⟩
  subst hv
  exact ⟨_, rfl, rfl, hw⟩
set_option maxRecDepth 100000 in
theorem impl_roundQuotient_n {w : World} {xs : List Value} {x : Int} {d : Nat} {p : Option Addr} {n c : Nat} {m : Int} (h : Reps w xs (enc x)) (k : IntsR w p n c (digs d)) (hd : 0 < d) (hx : (digs x.natAbs).length ≤ 40) (hn : n ≤ 40) (hm : modeOk m = true) :
    Ret P n_impl_roundQuotient [.agg ⟨xs⟩, .slice p n c, .int .i64 m] w fun v w' => ∃ vs f, v = .agg ⟨vs⟩ ∧ Owns w' w.heap.size vs (enc (rround x d m)) f ∧ f.Nodup ∧ Ext w w' := by
  have hm' := of_decide_eq_true hm
  obtain ⟨a0, ap, an, ac, az, rfl, hda, ha⟩ := open_Signed h (enc_code _)
  simp only [enc, List.cons.injEq, D0.bool.injEq, D0.ints.injEq, and_true] at hda
  obtain ⟨rfl, rfl⟩ := hda
  have hla := ha.1; have hlk := k.1
  have hd0 := digs_pos_len.2 (show d ≠ 0 by omega)
  refine impl_roundQuotient_ret ?_
  unfold impl_roundQuotient
  intro r w1 hn1 r1 w2 hn2
  have e1 := hn1.r_eq; have e2 := hn2.r_eq; have z1 := hn1.size; have z2 := hn2.size
  have X := hn1.ext.trans hn2.ext
  have b0 := hn1.blk.ext hn2.ext; have b1 := hn2.blk
  have fin : ∀ W p' n' c' M, Ext w2 W → Own W w2.heap.size T_int 1 p' n' c' ((digs M).map (Value.int .i64)) → M = roundM x d m → impl_roundQuotient_j0 r r1 p' n' c' W fun v w' => ∃ vs f, v = .agg ⟨vs⟩ ∧ Owns w' w.heap.size vs (enc (rround x d m)) f ∧ f.Nodup ∧ Ext w w' := by
    intro W p' n' c' M hW hO hM
    unfold impl_roundQuotient_j0
    refine ⟨_, (b0.ext hW).loadAt 0 rfl (by kernel_rfl) rfl, ?_⟩
    refine Ret.at (impl_signed_c (neg := decide (x < 0)) hO.ints.1) ?_
    rintro v w5 ⟨hv, y5⟩
    subst hv
    obtain ⟨W', st, ld, ow, xx, _, _⟩ := agg_end (t := T_impl_Signed) (b1.ext (hW.trans y5)) (X.trans (hW.trans y5)) (by omega) (own_int (hO.ext y5) (z := rround x d m) (by rw [rround_abs]; exact hM) rround_sign) (by kernel_rfl) rfl (by omega) (by omega)
    exact ⟨_, _, _, _, rfl, W', st, _, _, _, _, ld, _, _, rfl, ow, nodup_opt p', xx⟩
  refine ⟨_, _, _, b0.loadAt 1 rfl (by kernel_rfl) rfl, ?_⟩
  refine Ret.at (impl_natDiv_c (ha.ext X) (k.ext X) (digs_canon _) (digs_canon _) (by omega) (by omega) (by omega)) ?_
  rintro v w3 ⟨p3, n3, c3, p4, n4, c4, hv, oq, or', _, y3⟩
  subst hv
  rw [val_div] at oq
  rw [val_mod] at or'
  have lq := oq.ints.1; have lr := or'.ints.1
  have D := Ext.drew w3
  have Y := y3.trans D
  have q50 : n3 ≤ 40 := by have := digs_mono_len (Nat.div_le_self x.natAbs d); omega
  have r50 : n4 ≤ 40 := by have := digs_mono_len (Nat.le_of_lt (Nat.mod_lt x.natAbs hd)); omega
  refine ⟨_, _, _, _, _, _, rfl, ifD (fun hrem => ?_) (fun hno => ifF (fin _ _ _ _ _ Y (oq.ext D) ?_))⟩
  · have hne : x.natAbs % d ≠ 0 := digs_pos_len.1 (by omega)
    obtain ⟨fl, hix, hcall⟩ := mode_call hm'.1 hm'.2 (decide (x < 0)) (cmpL (digs (x.natAbs % d + x.natAbs % d)) (digs d)) (decide (x.natAbs / d % 2 = 1))
    refine Ret.at (impl_roundModes_n _) ?_
    rintro v w4 ⟨hv, y4⟩
    subst hv
    refine ⟨_, _, _, _, _, _, _, _, _, _, _, _, _, _, rfl, y4, hix _ ⟨_, fun W hW => ((b0.ext Y).ext hW).loadAt 0 rfl (by kernel_rfl) rfl, ?_⟩⟩
    refine Ret.at (impl_natAdd_c ((or'.ext D).ext y4).ints ((or'.ext D).ext y4).ints (digs_limbs _) (digs_limbs _) (by omega) (by omega)) ?_
    rintro v w5 ⟨p5, n5, c5, hv, o5, y5⟩
    subst hv
    rw [val_add'] at o5
    refine ⟨_, _, _, rfl, y5, ?_⟩
    refine Ret.at (impl_natCmp_c o5.ints (k.ext ((X.trans Y).trans (y4.trans y5)))) ?_
    rintro v w6 ⟨hv, y6⟩
    subst hv
    refine ⟨_, rfl, y6, ?_⟩
    have Y6 := (D.trans (y4.trans y5)).trans y6
    refine Ret.at (impl_NatEven_n (oq.ext Y6).ints (by omega)) ?_
    rintro v w7 ⟨hv, y7⟩
    subst hv
    refine ⟨_, rfl, y7, ?_⟩
    rw [odd_even]
    have Y7 := Y6.trans y7
    refine hcall _ _ ⟨_, rfl, fun hyes => ?_, fun hno => fin _ _ _ _ _ (y3.trans Y7) (oq.ext Y7) ?_⟩
    · intro r8 w8 hn8
      refine Ret.at (impl_natAdd_c ((oq.ext Y7).ext hn8.ext).ints (digs_one_r hn8.blk) (digs_limbs _) (digs_limbs _) (by omega) (by omega)) ?_
      rintro v w9 ⟨p9, n9, c9, hv, o9, y9⟩
      subst hv
      rw [val_add'] at o9
      have l8 := ((y3.trans Y7).trans hn8.ext).le
      refine ⟨_, _, _, rfl, fin _ _ _ _ _ (((y3.trans Y7).trans hn8.ext).trans y9) (o9.mono l8) ?_⟩
      rw [roundM, if_pos ⟨hne, hyes⟩]
    · rw [roundM, if_neg (fun hh => by rw [hh.2] at hno; cases hno)]
  · have heq : x.natAbs % d = 0 := Decidable.byContradiction fun hh => by
      have := digs_pos_len.2 hh
      omega
    rw [roundM, if_neg (fun hh => hh.1 heq)]
theorem spec_l06Away_n {w : World} {neg : Bool} {p1 p2 p3 : Option Addr} {n1 c1 n2 c2 n3 c3 : Nat} {Q R' d : Nat} {m : Int} (h1 : IntsR w p1 n1 c1 (digs Q)) (h2 : IntsR w p2 n2 c2 (digs R')) (h3 : IntsR w p3 n3 c3 (digs d)) (l1 : n1 ≤ 50) (l2 : n2 ≤ 50) :
    Ret P n_spec_l06Away [.bool neg, .slice p1 n1 c1, .slice p2 n2 c2, .slice p3 n3 c3, .int .i64 m] w fun v w' => v = .bool (modeAway m neg (cmpL (digs (R' + R')) (digs d)) (decide (Q % 2 = 1))) ∧ Ext w w' := by
  refine spec_l06Away_ret ?_
  unfold spec_l06Away
  refine Ret.at (spec_l02Add_n h2 h2 (by omega) (by omega)) ?_
  rintro v w1 ⟨p4, n4, c4, hv, i4, y1⟩
  subst hv
  refine ⟨_, _, _, rfl, ?_⟩
  refine Ret.at (spec_l02Cmp_c i4 (h3.ext y1)) ?_
  rintro v w2 ⟨hv, y2⟩
  subst hv
  have X := y1.trans y2
  generalize cmpL (digs (R' + R')) (digs d) = half
  refine ⟨_, rfl, ifD (fun e0 => ⟨by rw [modeAway, if_pos e0], X⟩) (fun e0 => ifD (fun e1 => ⟨by rw [modeAway, if_neg e0, if_pos e1], X⟩) (fun e1 => ifD (fun e2 => ⟨by rw [modeAway, if_neg e0, if_neg e1, if_pos e2], X⟩) (fun e2 => ifD (fun e3 => ⟨by rw [modeAway, if_neg e0, if_neg e1, if_neg e2, if_pos e3], X⟩) (fun e3 => ifD (fun e4 => ⟨by rw [modeAway, if_neg e0, if_neg e1, if_neg e2, if_neg e3, if_pos e4], X⟩) (fun e4 => ifD (fun e5 => ⟨by rw [modeAway, if_neg e0, if_neg e1, if_neg e2, if_neg e3, if_neg e4, if_pos e5], X⟩) (fun e5 => ?_))))))⟩
  have e6 : modeAway m neg half (decide (Q % 2 = 1)) = (decide (0 < half) || (decide (half = 0) && decide (Q % 2 = 1))) := by rw [modeAway, if_neg e0, if_neg e1, if_neg e2, if_neg e3, if_neg e4, if_neg e5]
  rw [e6]
  refine ifD (fun h => ⟨by rw [decide_eq_true h]; rfl, X⟩) (fun h => ifD (fun h0 => ?_) (fun h0 => ⟨by rw [decide_eq_false h, decide_eq_false h0]; rfl, X⟩))
  refine Ret.at (spec_NatEven_n (h1.ext X) l1) ?_
  rintro v w3 ⟨hv, y3⟩
  subst hv
  refine ⟨_, rfl, ?_, X.trans y3⟩
  rw [odd_even, decide_eq_false h, decide_eq_true h0]
  rfl
theorem spec_l06Round_n {w : World} {xs : List Value} {N : Int} {D : Nat} {m : Int} (h : Reps w xs (rmk N D)) (hok : ratOk (rmk N D) = true) :
    Ret P n_spec_l06Round [.agg ⟨xs⟩, .int .i64 m] w fun v w' => ∃ vs f, v = .agg ⟨vs⟩ ∧ Owns w' w.heap.size vs (enc (rround N D m)) f ∧ f.Nodup ∧ Ext w w' := by
  obtain ⟨p1, n1, c1, p2, n2, c2, rfl, i1, i2, li1, li2, he, hd⟩ := rmk_open h hok
  have ei1 := i1.1; have ei2 := i2.1
  have hd0 := digs_pos_len.2 (show D ≠ 0 by omega)
  refine spec_l06Round_ret ?_
  unfold spec_l06Round
  intro r w1 hn1 r1 w2 hn2
  have e1 := hn1.r_eq; have e2 := hn2.r_eq; have z1 := hn1.size; have z2 := hn2.size
  have X := hn1.ext.trans hn2.ext
  have b0 := hn1.blk.ext hn2.ext; have b1 := hn2.blk
  have fin : ∀ W p' n' c' M, Ext w2 W → IntsR W p' n' c' (digs M) → M = roundM N D m → spec_l06Round_j0 r r1 p' n' c' W fun v w' => ∃ vs f, v = .agg ⟨vs⟩ ∧ Owns w' w.heap.size vs (enc (rround N D m)) f ∧ f.Nodup ∧ Ext w w' := by
    intro W p' n' c' M hW hI hM
    unfold spec_l06Round_j0
    refine ⟨_, (b0.ext hW).loadAt 0 rfl (by kernel_rfl) rfl, ?_⟩
    refine Ret.at (spec_l04Make_c hI (digs_limbs _)) ?_
    rintro v w5 ⟨b5, p5, n5, c5, hv, hb5, o5, y5⟩
    subst hv
    rw [val_digs, Int.toNat_natCast] at hb5 o5
    have hl5 : (digs M).length ≤ 19 := by rw [hM]; exact roundM_len hd (by omega)
    have ecap : capL (digs M) = digs M := by unfold capL; rw [if_pos (by omega)]
    rw [ecap] at hb5 o5
    have lW := hW.le
    have ho : Owns w5 W.heap.size [.bool b5, .slice p5 n5 c5] (enc (rround N D m)) (p5.map (·.block)).toList := by
      rw [hb5]
      exact own_int o5 (z := rround N D m) (by rw [rround_abs]; exact hM) rround_sign
    obtain ⟨W', st, ld, ow, xx, _, _⟩ := agg_end (t := T_impl_Signed) (b1.ext (hW.trans y5)) (X.trans (hW.trans y5)) (by omega) ho (by kernel_rfl) rfl (by omega) (by omega)
    exact ⟨_, _, _, _, rfl, W', st, _, _, _, _, ld, _, _, rfl, ow, nodup_opt p5, xx⟩
  refine ⟨_, _, _, b0.loadAt 1 rfl (by kernel_rfl) rfl, _, _, _, b0.loadAt 2 rfl (by kernel_rfl) rfl, ?_⟩
  refine Ret.at (spec_l03Div_c (i1.ext X) (i2.ext X) (digs_limbs _) (digs_canon _) (by omega) (by omega) (by omega)) ?_
  rintro v w3 ⟨p3, n3, c3, p4, n4, c4, hv, oq, or', y3⟩
  subst hv
  rw [val_div] at oq
  rw [val_mod] at or'
  have lq := oq.1; have lr := or'.1
  have q50 : n3 ≤ 40 := by have := digs_mono_len (Nat.div_le_self N.natAbs D); omega
  have r50 : n4 ≤ 40 := by have := digs_mono_len (Nat.le_of_lt (Nat.mod_lt N.natAbs hd)); omega
  refine ⟨_, _, _, _, _, _, rfl, ifD (fun hrem => ?_) (fun hno => ifF (fin _ _ _ _ _ y3 oq ?_))⟩
  · have hne : N.natAbs % D ≠ 0 := digs_pos_len.1 (by omega)
    refine ⟨_, (b0.ext y3).loadAt 0 rfl (by kernel_rfl) rfl, _, _, _, (b0.ext y3).loadAt 2 rfl (by kernel_rfl) rfl, ?_⟩
    refine Ret.at (spec_l06Away_n oq or' (i2.ext (X.trans y3)) (by omega) (by omega)) ?_
    rintro v w4 ⟨hv, y4⟩
    subst hv
    refine ⟨_, rfl, fun hyes => ?_, fun hno => fin _ _ _ _ _ (y3.trans y4) (oq.ext y4) ?_⟩
    · intro r8 w8 hn8
      refine Ret.at (spec_l02Add_n ((oq.ext y4).ext hn8.ext) (digs_one_r hn8.blk) (by omega) (by omega)) ?_
      rintro v w9 ⟨p9, n9, c9, hv, i9, y9⟩
      subst hv
      refine ⟨_, _, _, rfl, fin _ _ _ _ _ (((y3.trans y4).trans hn8.ext).trans y9) i9 ?_⟩
      rw [roundM, if_pos ⟨hne, hyes⟩]
    · rw [roundM, if_neg (fun hh => by rw [hh.2] at hno; cases hno)]
  · have heq : N.natAbs % D = 0 := Decidable.byContradiction fun hh => by
      have := digs_pos_len.2 hh
      omega
    rw [roundM, if_neg (fun hh => hh.1 heq)]
theorem impl_RatRound_n {w : World} {xs : List Value} {N : Int} {D : Nat} {m : Int} (h : Reps w xs (rmk N D)) (hok : ratOk (rmk N D) = true) :
    Ret P n_impl_RatRound [.agg ⟨xs⟩, .int .i64 m] w fun v w' => ∃ vs f, v = .tuple #[.agg ⟨vs⟩, .bool (modeOk m)] ∧ Owns w' w.heap.size vs (enc (if modeOk m then rround N D m else 0)) f ∧ f.Nodup ∧ Ext w w' := by
  have hr := h
  obtain ⟨p1, n1, c1, p2, n2, c2, rfl, i1, i2, li1, li2, he, hd⟩ := rmk_open h hok
  have ei1 := i1.1; have ei2 := i2.1
  refine impl_RatRound_ret ?_
  unfold impl_RatRound
  intro r w1 hn1 r1 w2 hn2
  have e1 := hn1.r_eq; have e2 := hn2.r_eq; have z1 := hn1.size; have z2 := hn2.size
  have X := hn1.ext.trans hn2.ext
  have b0 := hn1.blk.ext hn2.ext; have b1 := hn2.blk
  refine ⟨_, _, _, _, _, _, _, b0.loadA0 (by kernel_rfl), ?_⟩
  refine Ret.at (impl_RatOk_c (hr.ext X) (rmk_code _ _)) ?_
  rintro v w3 ⟨hv, y3⟩
  subst hv
  rw [hok]
  refine ⟨_, rfl, ifN (fun hh => absurd hh (by simp)) (fun _ => ?_)⟩
  refine Ret.at (impl_isMode_c m _) ?_
  rintro v w4 ⟨hv, hw⟩
  subst hv; subst hw
  have X3 := X.trans y3
  have l3 := y3.le
  have b0 := b0.ext y3; have b1 := b1.ext y3
  refine ⟨_, rfl, ifN (fun hno => ?_) (fun hyes => ?_)⟩
  · obtain ⟨W', st, ld, ow, xx, _, _⟩ := agg_end (t := T_impl_Signed) b1 X3 (by omega) (own_sgn0 w4 (r1 + 1)) (by kernel_rfl) rfl (by omega) (by omega)
    exact ⟨W', st, _, _, _, _, ld, _, [], by rw [hno], by rw [hno]; exact ow, List.nodup_nil, xx⟩
  · refine ⟨_, _, _, _, b0.loadAAt 0 [.bool (decide (N < 0)), .slice p1 n1 c1] rfl (by kernel_rfl) rfl, _, _, _, b0.loadAt 2 rfl (by kernel_rfl) rfl, ?_⟩
    refine Ret.at (impl_roundQuotient_n (he.ext X3) (i2.ext X3) hd (by omega) (by omega) hyes) ?_
    rintro v w5 ⟨vs5, f5, hv, ho5, nd5, y5⟩
    subst hv
    have hr5 := ho5.reps
    obtain ⟨s0, sp, sn, sc, sz, rfl, _, _⟩ := open_Signed hr5 (enc_code _)
    obtain ⟨W', st, ld, ow, xx, _, _⟩ := agg_end (t := T_impl_Signed) (b1.ext y5) (X3.trans y5) (by omega) ho5 (by kernel_rfl) rfl (by omega) (by omega)
    exact ⟨_, _, _, _, rfl, W', st, _, _, _, _, ld, _, f5, by rw [hyes], by rw [hyes]; exact ow, nd5, xx⟩
theorem spec_RatRound_n {w : World} {xs : List Value} {N : Int} {D : Nat} {m : Int} (h : Reps w xs (rmk N D)) (hok : ratOk (rmk N D) = true) :
    Ret P n_spec_RatRound [.agg ⟨xs⟩, .int .i64 m] w fun v w' => ∃ vs f, v = .tuple #[.agg ⟨vs⟩, .bool (modeOk m)] ∧ Owns w' w.heap.size vs (enc (if modeOk m then rround N D m else 0)) f ∧ f.Nodup ∧ Ext w w' := by
  have hr := h
  obtain ⟨p1, n1, c1, p2, n2, c2, rfl, i1, i2, li1, li2, he, hd⟩ := rmk_open h hok
  have ei1 := i1.1; have ei2 := i2.1
  refine spec_RatRound_ret ?_
  unfold spec_RatRound
  intro r w1 hn1 r1 w2 hn2
  have e1 := hn1.r_eq; have e2 := hn2.r_eq; have z1 := hn1.size; have z2 := hn2.size
  have X := hn1.ext.trans hn2.ext
  have b0 := hn1.blk.ext hn2.ext; have b1 := hn2.blk
  refine ⟨_, _, _, _, _, _, _, b0.loadA0 (by kernel_rfl), ?_⟩
  refine Ret.at (spec_RatOk_c (hr.ext X) (rmk_code _ _)) ?_
  rintro v w3 ⟨hv, y3⟩
  subst hv
  rw [hok]
  refine ⟨_, rfl, ifN (fun hh => absurd hh (by simp)) (fun _ => ?_)⟩
  refine Ret.at (spec_l06Mode_c m _) ?_
  rintro v w4 ⟨hv, hw⟩
  subst hv; subst hw
  have X3 := X.trans y3
  have l3 := y3.le
  have b0 := b0.ext y3; have b1 := b1.ext y3
  refine ⟨_, rfl, ifN (fun hno => ?_) (fun hyes => ?_)⟩
  · obtain ⟨W', st, ld, ow, xx, _, _⟩ := agg_end (t := T_impl_Signed) b1 X3 (by omega) (own_sgn0 w4 (r1 + 1)) (by kernel_rfl) rfl (by omega) (by omega)
    exact ⟨W', st, _, _, _, _, ld, _, [], by rw [hno], by rw [hno]; exact ow, List.nodup_nil, xx⟩
  · refine ⟨_, _, _, _, _, _, _, b0.loadA0 (by kernel_rfl), ?_⟩
    refine Ret.at (spec_l06Round_n (hr.ext X3) hok) ?_
    rintro v w5 ⟨vs5, f5, hv, ho5, nd5, y5⟩
    subst hv
    have hr5 := ho5.reps
    obtain ⟨s0, sp, sn, sc, sz, rfl, _, _⟩ := open_Signed hr5 (enc_code _)
    obtain ⟨W', st, ld, ow, xx, _, _⟩ := agg_end (t := T_impl_Signed) (b1.ext y5) (X3.trans y5) (by omega) ho5 (by kernel_rfl) rfl (by omega) (by omega)
    exact ⟨_, _, _, _, rfl, W', st, _, _, _, _, ld, _, f5, by rw [hyes], by rw [hyes]; exact ow, nd5, xx⟩
end Go.Proofs.YtfemmmbkhhemaaaGreatDoor

namespace Go.Proofs.YtfemmmbkhhemaaaGreatDoor
open Go Go.Proofs.YtfemmmbkhhemaaaGreatDoor.Sx
set_option linter.unusedVariables false
set_option linter.unusedSimpArgs false
/-- two structs of one's own stored into two older blocks, and read again -/
theorem two_end {t1 t2 : TypeId} {w W : World} {r1 r2 : Nat} {e1 e2 : TypeId} {o1 o2 xs1 xs2 : List Value} {d1 d2 : List D0} {f1 f2 : List Nat} {B : Nat} (hb1 : Blk W r1 e1 o1) (hb2 : Blk W r2 e2 o2) (X : Ext w W)
    (ho1 : Owns W B xs1 d1 f1) (ho2 : Owns W B xs2 d2 f2) (ht1 : aggT P t1 xs1.length = true) (hl1 : xs1.length = o1.length) (ht2 : aggT P t2 xs2.length = true) (hl2 : xs2.length = o2.length) (hne : r1 ≠ r2) (hr1 : w.heap.size ≤ r1) (hr2 : w.heap.size ≤ r2) (hB1 : r1 < B) (hB2 : r2 < B) (hwB : w.heap.size ≤ B) :
    ∃ W1 W2, Stores P t1 ⟨r1, 0, none⟩ (.agg ⟨xs1⟩) W W1 ∧ Chg [r1] W W1 ∧ Stores P t2 ⟨r2, 0, none⟩ (.agg ⟨xs2⟩) W1 W2 ∧ Loads P t1 ⟨r1, 0, none⟩ (.agg ⟨xs1⟩) W2 ∧ Loads P t2 ⟨r2, 0, none⟩ (.agg ⟨xs2⟩) W2 ∧ Owns W2 w.heap.size xs1 d1 f1 ∧ Owns W2 w.heap.size xs2 d2 f2 ∧ Ext w W2 := by
  obtain ⟨W1, st1, hb1', ch1, _⟩ := hb1.storeA0 (P := P) (t := t1) (xs := xs1) ht1 hl1 ho1.reps.cells1
  obtain ⟨W2, st2, hb2', ch2, _⟩ := (hb2.chg ch1 (by simp; omega)).storeA0 (P := P) (t := t2) (xs := xs2) ht2 hl2 ho2.reps.cells1
  exact ⟨W1, W2, st1, ch1, st2, (hb1'.chg ch2 (by simp; omega)).loadA0 ht1, hb2'.loadA0 ht2, ((ho1.chg1 ch1 hB1).chg1 ch2 hB2).mono hwB, ((ho2.chg1 ch1 hB1).chg1 ch2 hB2).mono hwB, (X.chg ch1 (by simp; exact hr1)).chg ch2 (by simp; exact hr2)⟩
theorem own_money0 (W : World) (B : Nat) : Owns W B [.string ByteArray.empty, .bool false, .slice none 0 0] zeroMoney [] :=
  Owns.append (Owns.str _ _ _) (Owns.append (Owns.bool _ _ false) (Owns.ints (zs := []) (Own.nil W B T_int 1)))
/-- what is one's own lies in blocks of numbers -/
theorem Owns.notin {w : World} {B : Nat} {r : Nat} {e : TypeId} {cs : List Value} (hb : Blk w r e cs) (he : e ≠ T_int) : ∀ {vs : List Value} {ds : List D0} {f : List Nat}, Owns w B vs ds f → r ∉ f
  | [], [], f, h => by rw [show f = [] from h]; simp
  | [], _ :: _, _, h => h.elim
  | _ :: _, [], _, h => h.elim
  | v :: vs, d :: ds, _, h => by
    obtain ⟨f1, f2, rfl, h1, h2⟩ := h
    have ih := Owns.notin hb he h2
    intro hm
    rcases List.mem_append.1 hm with hm | hm
    · cases d <;> simp only [Own0] at h1
      case ints zs =>
        obtain ⟨p, n, c, _, ho, hf⟩ := h1
        rw [hf] at hm
        have hm := opt_mem hm
        rcases ho.2 with k1 | ⟨g, cap, cur, k1, k2, k3, k4⟩
        · simp only [Value.slice.injEq] at k1
          rw [k1.1.1] at hm
          simp at hm
        · simp only [Value.slice.injEq] at k1
          rw [k1.1] at hm
          simp at hm
          subst hm
          rw [show w.heap[g]? = _ from hb] at k3
          simp only [Option.some.injEq, Obj.cells.injEq] at k3
          exact he k3.2.1
      all_goals (rw [h1.2] at hm; simp at hm)
    · exact ih hm
def rr (N : Int) (D : Nat) (m : Int) : Int := if modeOk m then rround N D m else 0
def restR (N : Int) (D : Nat) (m : Int) : List D0 := redR (N * ((1 : Nat) : Int) + -(rround N D m) * (D : Int)) (D * 1)
def rs (N : Int) (D : Nat) (m : Int) : List D0 := if modeOk m then restR N D m else rat0
def rmOk (cur : ByteArray) (N : Int) (D : Nat) (m : Int) : Bool := modeOk m && moneyOk (.str cur :: enc (rround N D m))
def rmMoney (cur : ByteArray) (N : Int) (D : Nat) (m : Int) : List D0 := if rmOk cur N D m then .str cur :: enc (rround N D m) else zeroMoney
def rmRest (cur : ByteArray) (N : Int) (D : Nat) (m : Int) : List D0 := if rmOk cur N D m then restR N D m else rat0
theorem one_len1 : (digs 1).length ≤ 1 := by rw [digs_one]; decide
theorem redR_int {z : Int} (h : (digs z.natAbs).length ≤ 18) : redR z 1 = rmk z 1 := by
  have h1 : redN z 1 = z := by
    have h2 : Nat.gcd z.natAbs 1 = 1 := Nat.gcd_one_right _
    unfold redN
    rw [h2, Nat.div_one]
    split <;> omega
  have h2 : redD z 1 = 1 := by
    have h2 : Nat.gcd z.natAbs 1 = 1 := Nat.gcd_one_right _
    unfold redD
    rw [h2]
  rw [redR_small h (Nat.le_trans one_len1 (by decide)), h1, h2]
theorem rmk_int_ok {z : Int} (h : (digs z.natAbs).length ≤ 18) : ratOk (rmk z 1) = true := ratOk_rmk (by decide) (Nat.gcd_one_right _) h (Nat.le_trans one_len1 (by decide))
theorem rr_len {N : Int} {D : Nat} {m : Int} (hd : 0 < D) (h : (digs N.natAbs).length ≤ 10) : (digs (rr N D m).natAbs).length ≤ 11 := by
  unfold rr
  split
  · rw [rround_abs]; exact roundM_len hd h
  · rw [Int.natAbs_zero, digs_zero]; simp
theorem rest_len {N z : Int} {D : Nat} (hN : (digs N.natAbs).length ≤ 10) (hD : (digs D).length ≤ 6) (hz : (digs z.natAbs).length ≤ 11) : redOk (N * ((1 : Nat) : Int) + -z * (D : Int)) (D * 1) = true := by
  have h1 : (digs (-z * (D : Int)).natAbs).length ≤ 17 := by
    rw [Int.natAbs_mul, Int.natAbs_natCast, Int.natAbs_neg]
    exact prod_len hz hD
  have h2 : (digs (N * ((1 : Nat) : Int)).natAbs).length ≤ 17 := by
    rw [Int.natCast_one, Int.mul_one]; omega
  exact redOk_small (sum_len h2 h1) (by rw [Nat.mul_one]; omega)
theorem spec_l09Make_s {w : World} {B : Nat} {xs : List Value} {z : Int} {f : List Nat} (cur : ByteArray) (h : Owns w B xs (enc z) f) (hnd : f.Nodup) (hB : B ≤ w.heap.size) :
    Ret P n_spec_l09Make [.string cur, .agg ⟨xs⟩] w fun v w' => ∃ vs f', v = .tuple #[.agg ⟨vs⟩, .bool (moneyOk (.str cur :: enc z))] ∧ Owns w' B vs (moneyMk cur z) f' ∧ f'.Nodup ∧ (∀ k ∈ f', k ∈ f) ∧ Ext w w' := by
  have ho := h
  obtain ⟨a0, a1p, a1n, a1c, a1z, rfl, hd, ha⟩ := open_Signed h.reps (enc_code _)
  refine spec_l09Make_ret ?_
  unfold spec_l09Make
  intro r w1 hn1 r1 w2 hn2
  refine ⟨_, _, _, _, (hn1.blk.ext hn2.ext).loadA0 (by kernel_rfl), ?_⟩
  intro r2 w3 hn3
  have e1 := hn1.r_eq; have e2 := hn2.r_eq; have e3 := hn3.r_eq; have s1 := hn1.size; have s2 := hn2.size; have s3 := hn3.size
  obtain ⟨w4, st4, hb4, y4⟩ := hn3.fill (P := P) (t := T_impl_Money) (xs := [.string cur, .bool a0, .slice a1p a1n a1c]) (by simp [Value.oneCell']) (by kernel_rfl) rfl
  have X := (hn1.ext.trans hn2.ext).trans y4
  have k1 := hn2.blk.ext y4
  refine ⟨w4, st4, _, _, _, _, _, hb4.loadA0 (by kernel_rfl), ?_⟩
  have hm : Reps w4 [.string cur, .bool a0, .slice a1p a1n a1c] (.str cur :: enc z) := ⟨rfl, h.reps.ext X⟩
  refine Ret.at (spec_MoneyOk_c hm rfl) ?_
  rintro v w5 ⟨hv, y5⟩
  subst hv
  have X5 := X.trans y5
  refine ⟨_, rfl, ifN (fun hno => ?_) (fun hyes => ?_)⟩
  · obtain ⟨w6, st6, hb6, ch, sz⟩ := (k1.ext y5).storeA0 (P := P) (t := T_impl_Money) (xs := [.string ByteArray.empty, .bool false, .slice none 0 0]) (by kernel_rfl) rfl (by simp [Value.oneCell'])
    refine ⟨w6, st6, _, _, _, _, _, hb6.loadA0 (by kernel_rfl), [.string ByteArray.empty, .bool false, .slice none 0 0], [], by rw [hno], ?_, List.nodup_nil, fun _ hh => by simp at hh, X5.chg ch (by simp; omega)⟩
    unfold moneyMk
    rw [hno]
    exact Owns.append (Owns.str _ _ _) (Owns.append (Owns.bool _ _ false) (Owns.ints (zs := []) (Own.nil w6 B T_int 1)))
  · obtain ⟨w6, st6, hb6, ch, sz⟩ := (k1.ext y5).storeA0 (P := P) (t := T_impl_Money) (xs := [.string cur, .bool a0, .slice a1p a1n a1c]) (by kernel_rfl) rfl (by simp [Value.oneCell'])
    refine ⟨_, _, _, _, _, (hb4.ext y5).loadA0 (by kernel_rfl), w6, st6, _, _, _, _, _, hb6.loadA0 (by kernel_rfl), [.string cur, .bool a0, .slice a1p a1n a1c], f, by rw [hyes], ?_, hnd, fun _ hh => hh, X5.chg ch (by simp; omega)⟩
    unfold moneyMk
    rw [hyes]
    have h5 := ((ho.ext X5).chg ch fun k hk hm => by
      have := (ho.lt k hk).2
      simp at hm; omega)
    exact Owns.append (Owns.str _ _ cur) h5
theorem impl_moneyOf_s {w : World} (ht : Tab w) {B : Nat} {xs : List Value} {z : Int} {f : List Nat} (cur : ByteArray) (h : Owns w B xs (enc z) f) (hnd : f.Nodup) (hB : B ≤ w.heap.size) :
    Ret P n_impl_moneyOf [.string cur, .agg ⟨xs⟩] w fun v w' => ∃ vs f', v = .tuple #[.agg ⟨vs⟩, .bool (moneyOk (.str cur :: enc z))] ∧ Owns w' B vs (moneyMk cur z) f' ∧ f'.Nodup ∧ (∀ k ∈ f', k ∈ f) ∧ Ext w w' := by
  have ho := h
  obtain ⟨a0, a1p, a1n, a1c, a1z, rfl, hd, ha⟩ := open_Signed h.reps (enc_code _)
  refine impl_moneyOf_ret ?_
  unfold impl_moneyOf
  intro r w1 hn1 r1 w2 hn2
  refine ⟨_, _, _, _, (hn1.blk.ext hn2.ext).loadA0 (by kernel_rfl), ?_⟩
  intro r2 w3 hn3
  have e1 := hn1.r_eq; have e2 := hn2.r_eq; have e3 := hn3.r_eq; have s1 := hn1.size; have s2 := hn2.size; have s3 := hn3.size
  obtain ⟨w4, st4, hb4, y4⟩ := hn3.fill (P := P) (t := T_impl_Money) (xs := [.string cur, .bool a0, .slice a1p a1n a1c]) (by simp [Value.oneCell']) (by kernel_rfl) rfl
  have X := (hn1.ext.trans hn2.ext).trans y4
  have k1 := hn2.blk.ext y4
  refine ⟨w4, st4, _, _, _, _, _, hb4.loadA0 (by kernel_rfl), ?_⟩
  have hm : Reps w4 [.string cur, .bool a0, .slice a1p a1n a1c] (.str cur :: enc z) := ⟨rfl, h.reps.ext X⟩
  refine Ret.at (impl_MoneyOk_c (ht.ext X) hm rfl) ?_
  rintro v w5 ⟨hv, y5⟩
  subst hv
  have X5 := X.trans y5
  refine ⟨_, rfl, fun hyes => ?_, fun hno => ?_⟩
  · obtain ⟨w6, st6, hb6, ch, sz⟩ := (k1.ext y5).storeA0 (P := P) (t := T_impl_Money) (xs := [.string cur, .bool a0, .slice a1p a1n a1c]) (by kernel_rfl) rfl (by simp [Value.oneCell'])
    refine ⟨_, _, _, _, _, (hb4.ext y5).loadA0 (by kernel_rfl), w6, st6, _, _, _, _, _, hb6.loadA0 (by kernel_rfl), [.string cur, .bool a0, .slice a1p a1n a1c], f, by rw [hyes], ?_, hnd, fun _ hh => hh, X5.chg ch (by simp; omega)⟩
    unfold moneyMk
    rw [hyes]
    have h5 := ((ho.ext X5).chg ch fun k hk hm => by
      have := (ho.lt k hk).2
      simp at hm; omega)
    exact Owns.append (Owns.str _ _ cur) h5
  · obtain ⟨w6, st6, hb6, ch, sz⟩ := (k1.ext y5).storeA0 (P := P) (t := T_impl_Money) (xs := [.string ByteArray.empty, .bool false, .slice none 0 0]) (by kernel_rfl) rfl (by simp [Value.oneCell'])
    refine ⟨w6, st6, _, _, _, _, _, hb6.loadA0 (by kernel_rfl), [.string ByteArray.empty, .bool false, .slice none 0 0], [], by rw [hno], ?_, List.nodup_nil, fun _ hh => by simp at hh, X5.chg ch (by simp; omega)⟩
    unfold moneyMk
    rw [hno]
    exact Owns.append (Owns.str _ _ _) (Owns.append (Owns.bool _ _ false) (Owns.ints (zs := []) (Own.nil w6 B T_int 1)))
theorem impl_RatRest_n {w : World} {xs : List Value} {N : Int} {D : Nat} {m : Int} (h : Reps w xs (rmk N D)) (hok : ratOk (rmk N D) = true) (hN : (digs N.natAbs).length ≤ 10) (hD : (digs D).length ≤ 6) :
    Ret P n_impl_RatRest [.agg ⟨xs⟩, .int .i64 m] w fun v w' => ∃ vs1 f1 vs2 f2, v = .tuple #[.agg ⟨vs1⟩, .agg ⟨vs2⟩, .bool (modeOk m)] ∧ Owns w' w.heap.size vs1 (enc (rr N D m)) f1 ∧ f1.Nodup ∧ Owns w' w.heap.size vs2 (rs N D m) f2 ∧ f2.Nodup ∧ (∀ k ∈ f1, k ∉ f2) ∧ Ext w w' := by
  have hr := h
  obtain ⟨p1, n1, c1, p2, n2, c2, rfl, i1, i2, li1, li2, he, hd⟩ := rmk_open h hok
  refine impl_RatRest_ret ?_
  unfold impl_RatRest
  intro r w1 hn1 r1 w2 hn2 r2 w3 hn3
  have e1 := hn1.r_eq; have e2 := hn2.r_eq; have e3 := hn3.r_eq; have z1 := hn1.size; have z2 := hn2.size; have z3 := hn3.size
  have X := (hn1.ext.trans hn2.ext).trans hn3.ext
  have b0 := (hn1.blk.ext hn2.ext).ext hn3.ext; have b1 := hn2.blk.ext hn3.ext; have b2 := hn3.blk
  have zlen := rr_len (m := m) hd hN
  have zok := rmk_int_ok (show (digs (rr N D m).natAbs).length ≤ 18 by omega)
  have zred := redR_int (show (digs (rr N D m).natAbs).length ≤ 18 by omega)
  have zrok := redOk_small (n := rr N D m) (d := 1) (by omega) (Nat.le_trans one_len1 (by decide))
  have dok := rest_len (z := rr N D m) hN hD zlen
  refine ⟨_, _, _, _, _, _, _, b0.loadA0 (by kernel_rfl), ?_⟩
  refine Ret.at (impl_RatRound_n (m := m) (hr.ext X) hok) ?_
  rintro v w4 ⟨vs4, f4, hv, ho4, nd4, y4⟩
  subst hv
  have ho4 : Owns w4 w3.heap.size vs4 (enc (rr N D m)) f4 := ho4
  have hr4 := ho4.reps
  obtain ⟨s0, sp, sn, sc, sz, rfl, _, _⟩ := open_Signed hr4 (enc_code _)
  refine ⟨_, _, _, _, _, rfl, ?_⟩
  intro r3 w5 hn5
  have e5 := hn5.r_eq; have z5 := hn5.size; have l4 := y4.le
  obtain ⟨w6, st6, hb6, y6⟩ := hn5.fill (P := P) (t := T_impl_Signed) (xs := [.bool s0, .slice sp sn sc]) (by simp [Value.oneCell']) (by kernel_rfl) rfl
  have Y6 := y4.trans y6
  have l6 := y6.le
  have zero : ∀ W, Ext w6 W → modeOk m = false → ∃ W1, Stores P T_impl_Signed ⟨r1, 0, none⟩ (.agg ⟨[.bool false, .slice none 0 0]⟩) W W1 ∧ ∃ W2, Stores P T_impl_Rat ⟨r2, 0, none⟩ (.agg ⟨[.bool false, .slice none 0 0, .slice none 0 0]⟩) W1 W2 ∧ Loads P T_impl_Signed ⟨r1, 0, none⟩ (.agg ⟨[.bool false, .slice none 0 0]⟩) W2 ∧ Loads P T_impl_Rat ⟨r2, 0, none⟩ (.agg ⟨[.bool false, .slice none 0 0, .slice none 0 0]⟩) W2 ∧ Owns W2 w.heap.size [.bool false, .slice none 0 0] (enc (rr N D m)) [] ∧ Owns W2 w.heap.size [.bool false, .slice none 0 0, .slice none 0 0] (rs N D m) [] ∧ Ext w W2 := by
    intro W hW hno
    have q1 := (b1.ext Y6).ext hW; have q2 := (b2.ext Y6).ext hW
    obtain ⟨W1, W2, a1, _, a2, a3, a4, a5, a6, a7⟩ := two_end (t1 := T_impl_Signed) (t2 := T_impl_Rat) q1 q2 ((X.trans Y6).trans hW) (own_sgn0 W (r2 + 1)) (own_rat0 W (r2 + 1)) (by kernel_rfl) rfl (by kernel_rfl) rfl (by omega) (by omega) (by omega) (by omega) (by omega) (by omega)
    have z1' : rr N D m = 0 := by rw [rr, hno]; rfl
    have z2' : rs N D m = rat0 := by rw [rs, hno]; rfl
    rw [z1', z2']
    exact ⟨W1, a1, W2, a2, a3, a4, a5, a6, a7⟩
  refine ⟨w6, st6, ifN (fun hno => ?_) (fun hyes => ?_)⟩
  · obtain ⟨W1, a1, W2, a2, a3, a4, a5, a6, a7⟩ := zero _ (Ext.refl _) hno
    exact ⟨W1, a1, W2, a2, _, _, _, _, a3, _, _, _, _, _, _, _, a4, _, [], _, [], by rw [hno], a5, List.nodup_nil, a6, List.nodup_nil, fun k hk => by simp at hk, a7⟩
  ·
    have hr6 : Reps w6 [.bool s0, .slice sp sn sc] (enc (rr N D m)) := hr4.ext y6
    refine ⟨_, _, _, _, hb6.loadA0 (by kernel_rfl), ?_⟩
    refine Ret.at (impl_RatInt_n hr6 (by omega)) ?_
    rintro v w7 ⟨vs7, f7, hv, ho7, _, y7⟩
    subst hv
    rw [zred] at ho7
    rw [zrok]
    have hr7 := ho7.reps
    obtain ⟨u0, up, un, uc, uz, up2, un2, uc2, uz2, rfl, _, _, _⟩ := open_Rat hr7 (rmk_code _ _)
    refine ⟨_, _, _, _, _, _, _, _, rfl, ?_⟩
    intro r4 w8 hn8
    have e8 := hn8.r_eq; have z8 := hn8.size; have l7 := y7.le
    obtain ⟨w9, st9, hb9, y9⟩ := hn8.fill (P := P) (t := T_impl_Rat) (xs := [.bool u0, .slice up un uc, .slice up2 un2 uc2]) (by simp [Value.oneCell']) (by kernel_rfl) rfl
    have l9 := y9.le
    have Y9 := (Y6.trans y7).trans y9
    refine ⟨w9, st9, _, _, _, _, _, _, _, (b0.ext Y9).loadA0 (by kernel_rfl), _, _, _, _, _, _, _, hb9.loadA0 (by kernel_rfl), ?_⟩
    refine Ret.at (impl_RatSub_n (hr.ext (X.trans Y9)) (hr7.ext y9) hok zok) ?_
    rintro v w10 ⟨vs10, f10, hv, ho10, nd10, y10⟩
    subst hv
    rw [dok]
    have hr10 := ho10.reps
    obtain ⟨g0, gp, gn, gc, gz, gp2, gn2, gc2, gz2, rfl, _, _, _⟩ := open_Rat hr10 (redR_code _ _)
    refine ⟨_, _, _, _, _, _, _, _, rfl, ?_⟩
    intro r5 w11 hn11
    have e11 := hn11.r_eq; have z11 := hn11.size; have l10 := y10.le
    obtain ⟨w12, st12, hb12, y12⟩ := hn11.fill (P := P) (t := T_impl_Rat) (xs := [.bool g0, .slice gp gn gc, .slice gp2 gn2 gc2]) (by simp [Value.oneCell']) (by kernel_rfl) rfl
    have D' := Ext.drew w12
    have Y12 := ((Y9.trans y10).trans y12).trans D'
    have T12 := (((y7.trans y9).trans y10).trans y12).trans D'
    have q1 := b1.ext Y12; have q2 := b2.ext Y12
    have k3 := hb6.ext T12; have k5 := hb12.ext D'
    have o1 := (ho4.ext y6).ext T12
    have o2 := ((ho10.ext y12).ext D').mono (show w3.heap.size ≤ w9.heap.size by omega)
    have dis : ∀ k ∈ f4, k ∉ f10 := fun k hk hm => by
      have a := (ho4.lt k hk).2
      have b := (ho10.lt k hm).1
      omega
    refine ⟨w12, st12, ?_⟩
    refine ifN (fun hh => absurd hh (by simp)) (fun _ => ifN (fun hh => absurd hh (by simp)) (fun _ => ?_))
    obtain ⟨W1, W2, a1, ch1, a2, a3, a4, a5, a6, a7⟩ := two_end (t1 := T_impl_Signed) (t2 := T_impl_Rat) q1 q2 (X.trans Y12) o1 o2 (by kernel_rfl) rfl (by kernel_rfl) rfl (by omega) (by omega) (by omega) (by omega) (by omega) (by omega)
    have z1' : rr N D m = rround N D m := by rw [rr, hyes]; rfl
    have z2' : rs N D m = restR N D m := by rw [rs, hyes]; rfl
    refine ⟨[r1], _, _, _, _, fun W hW => (k3.chg (show Chg [r1] w12.drew W from hW) (by simp; omega)).loadA0 (by kernel_rfl), _, _, _, _, _, _, _, fun W hW => (k5.chg (show Chg [r1] w12.drew W from hW) (by simp; omega)).loadA0 (by kernel_rfl), W1, a1, show Chg [r1] w12.drew W1 from ch1, W2, a2, _, _, _, _, a3, _, _, _, _, _, _, _, a4, _, f4, _, f10, by rw [hyes], a5, nd4, ?_, nd10, dis, a7⟩
    rw [z2', restR, ← z1']
    exact a6
theorem spec_RatRest_n {w : World} {xs : List Value} {N : Int} {D : Nat} {m : Int} (h : Reps w xs (rmk N D)) (hok : ratOk (rmk N D) = true) (hN : (digs N.natAbs).length ≤ 10) (hD : (digs D).length ≤ 6) :
    Ret P n_spec_RatRest [.agg ⟨xs⟩, .int .i64 m] w fun v w' => ∃ vs1 f1 vs2 f2, v = .tuple #[.agg ⟨vs1⟩, .agg ⟨vs2⟩, .bool (modeOk m)] ∧ Owns w' w.heap.size vs1 (enc (rr N D m)) f1 ∧ f1.Nodup ∧ Owns w' w.heap.size vs2 (rs N D m) f2 ∧ f2.Nodup ∧ (∀ k ∈ f1, k ∉ f2) ∧ Ext w w' := by
  have hr := h
  obtain ⟨p1, n1, c1, p2, n2, c2, rfl, i1, i2, li1, li2, he, hd⟩ := rmk_open h hok
  refine spec_RatRest_ret ?_
  unfold spec_RatRest
  intro r w1 hn1 r1 w2 hn2 r2 w3 hn3
  have e1 := hn1.r_eq; have e2 := hn2.r_eq; have e3 := hn3.r_eq; have z1 := hn1.size; have z2 := hn2.size; have z3 := hn3.size
  have X := (hn1.ext.trans hn2.ext).trans hn3.ext
  have b0 := (hn1.blk.ext hn2.ext).ext hn3.ext; have b1 := hn2.blk.ext hn3.ext; have b2 := hn3.blk
  have zlen := rr_len (m := m) hd hN
  have zok := rmk_int_ok (show (digs (rr N D m).natAbs).length ≤ 18 by omega)
  have zred := redR_int (show (digs (rr N D m).natAbs).length ≤ 18 by omega)
  have zrok := redOk_small (n := rr N D m) (d := 1) (by omega) (Nat.le_trans one_len1 (by decide))
  have dok := rest_len (z := rr N D m) hN hD zlen
  refine ⟨_, _, _, _, _, _, _, b0.loadA0 (by kernel_rfl), ?_⟩
  refine Ret.at (spec_RatRound_n (m := m) (hr.ext X) hok) ?_
  rintro v w4 ⟨vs4, f4, hv, ho4, nd4, y4⟩
  subst hv
  have ho4 : Owns w4 w3.heap.size vs4 (enc (rr N D m)) f4 := ho4
  have hr4 := ho4.reps
  obtain ⟨s0, sp, sn, sc, sz, rfl, _, _⟩ := open_Signed hr4 (enc_code _)
  refine ⟨_, _, _, _, _, rfl, ?_⟩
  intro r3 w5 hn5
  have e5 := hn5.r_eq; have z5 := hn5.size; have l4 := y4.le
  obtain ⟨w6, st6, hb6, y6⟩ := hn5.fill (P := P) (t := T_impl_Signed) (xs := [.bool s0, .slice sp sn sc]) (by simp [Value.oneCell']) (by kernel_rfl) rfl
  have Y6 := y4.trans y6
  have l6 := y6.le
  have zero : ∀ W, Ext w6 W → modeOk m = false → ∃ W1, Stores P T_impl_Signed ⟨r1, 0, none⟩ (.agg ⟨[.bool false, .slice none 0 0]⟩) W W1 ∧ ∃ W2, Stores P T_impl_Rat ⟨r2, 0, none⟩ (.agg ⟨[.bool false, .slice none 0 0, .slice none 0 0]⟩) W1 W2 ∧ Loads P T_impl_Signed ⟨r1, 0, none⟩ (.agg ⟨[.bool false, .slice none 0 0]⟩) W2 ∧ Loads P T_impl_Rat ⟨r2, 0, none⟩ (.agg ⟨[.bool false, .slice none 0 0, .slice none 0 0]⟩) W2 ∧ Owns W2 w.heap.size [.bool false, .slice none 0 0] (enc (rr N D m)) [] ∧ Owns W2 w.heap.size [.bool false, .slice none 0 0, .slice none 0 0] (rs N D m) [] ∧ Ext w W2 := by
    intro W hW hno
    have q1 := (b1.ext Y6).ext hW; have q2 := (b2.ext Y6).ext hW
    obtain ⟨W1, W2, a1, _, a2, a3, a4, a5, a6, a7⟩ := two_end (t1 := T_impl_Signed) (t2 := T_impl_Rat) q1 q2 ((X.trans Y6).trans hW) (own_sgn0 W (r2 + 1)) (own_rat0 W (r2 + 1)) (by kernel_rfl) rfl (by kernel_rfl) rfl (by omega) (by omega) (by omega) (by omega) (by omega) (by omega)
    have z1' : rr N D m = 0 := by rw [rr, hno]; rfl
    have z2' : rs N D m = rat0 := by rw [rs, hno]; rfl
    rw [z1', z2']
    exact ⟨W1, a1, W2, a2, a3, a4, a5, a6, a7⟩
  refine ⟨w6, st6, ?_⟩
  have hr6 : Reps w6 [.bool s0, .slice sp sn sc] (enc (rr N D m)) := hr4.ext y6
  refine ⟨_, _, _, _, hb6.loadA0 (by kernel_rfl), ?_⟩
  refine Ret.at (spec_RatInt_n hr6 (by omega)) ?_
  rintro v w7 ⟨vs7, f7, hv, ho7, _, y7⟩
  subst hv
  rw [zred] at ho7
  rw [zrok]
  have hr7 := ho7.reps
  obtain ⟨u0, up, un, uc, uz, up2, un2, uc2, uz2, rfl, _, _, _⟩ := open_Rat hr7 (rmk_code _ _)
  refine ⟨_, _, _, _, _, _, _, _, rfl, ?_⟩
  intro r4 w8 hn8
  have e8 := hn8.r_eq; have z8 := hn8.size; have l7 := y7.le
  obtain ⟨w9, st9, hb9, y9⟩ := hn8.fill (P := P) (t := T_impl_Rat) (xs := [.bool u0, .slice up un uc, .slice up2 un2 uc2]) (by simp [Value.oneCell']) (by kernel_rfl) rfl
  have l9 := y9.le
  have Y9 := (Y6.trans y7).trans y9
  refine ⟨w9, st9, _, _, _, _, _, _, _, (b0.ext Y9).loadA0 (by kernel_rfl), _, _, _, _, _, _, _, hb9.loadA0 (by kernel_rfl), ?_⟩
  refine Ret.at (spec_RatSub_n (hr.ext (X.trans Y9)) (hr7.ext y9) hok zok) ?_
  rintro v w10 ⟨vs10, f10, hv, ho10, nd10, y10⟩
  subst hv
  rw [dok]
  have hr10 := ho10.reps
  obtain ⟨g0, gp, gn, gc, gz, gp2, gn2, gc2, gz2, rfl, _, _, _⟩ := open_Rat hr10 (redR_code _ _)
  refine ⟨_, _, _, _, _, _, _, _, rfl, ?_⟩
  intro r5 w11 hn11
  have e11 := hn11.r_eq; have z11 := hn11.size; have l10 := y10.le
  obtain ⟨w12, st12, hb12, y12⟩ := hn11.fill (P := P) (t := T_impl_Rat) (xs := [.bool g0, .slice gp gn gc, .slice gp2 gn2 gc2]) (by simp [Value.oneCell']) (by kernel_rfl) rfl
  have D' := Ext.drew w12
  have Y12 := ((Y9.trans y10).trans y12).trans D'
  have T12 := (((y7.trans y9).trans y10).trans y12).trans D'
  have q1 := b1.ext Y12; have q2 := b2.ext Y12
  have k3 := hb6.ext T12; have k5 := hb12.ext D'
  have o1 := (ho4.ext y6).ext T12
  have o2 := ((ho10.ext y12).ext D').mono (show w3.heap.size ≤ w9.heap.size by omega)
  have dis : ∀ k ∈ f4, k ∉ f10 := fun k hk hm => by
    have a := (ho4.lt k hk).2
    have b := (ho10.lt k hm).1
    omega
  refine ⟨w12, st12, ?_⟩
  refine ifN (fun hno => ifT (ifT ?_)) (fun hyes => ifN (fun hh => absurd hh (by simp)) (fun _ => ifN (fun hh => absurd hh (by simp)) (fun _ => ?_)))
  · obtain ⟨W1, a1, W2, a2, a3, a4, a5, a6, a7⟩ := zero _ (((y7.trans y9).trans y10).trans y12) hno
    exact ⟨W1, a1, W2, a2, _, _, _, _, a3, _, _, _, _, _, _, _, a4, _, [], _, [], by rw [hno], a5, List.nodup_nil, a6, List.nodup_nil, fun k hk => by simp at hk, a7⟩
  obtain ⟨W1, W2, a1, ch1, a2, a3, a4, a5, a6, a7⟩ := two_end (t1 := T_impl_Signed) (t2 := T_impl_Rat) q1 q2 (X.trans Y12) o1 o2 (by kernel_rfl) rfl (by kernel_rfl) rfl (by omega) (by omega) (by omega) (by omega) (by omega) (by omega)
  have z1' : rr N D m = rround N D m := by rw [rr, hyes]; rfl
  have z2' : rs N D m = restR N D m := by rw [rs, hyes]; rfl
  refine ⟨[r1], _, _, _, _, fun W hW => (k3.chg (show Chg [r1] w12.drew W from hW) (by simp; omega)).loadA0 (by kernel_rfl), _, _, _, _, _, _, _, fun W hW => (k5.chg (show Chg [r1] w12.drew W from hW) (by simp; omega)).loadA0 (by kernel_rfl), W1, a1, show Chg [r1] w12.drew W1 from ch1, W2, a2, _, _, _, _, a3, _, _, _, _, _, _, _, a4, _, f4, _, f10, by rw [hyes], a5, nd4, ?_, nd10, dis, a7⟩
  rw [z2', restR, ← z1']
  exact a6
end Go.Proofs.YtfemmmbkhhemaaaGreatDoor

namespace Go.Proofs.YtfemmmbkhhemaaaGreatDoor
open Go Go.Proofs.YtfemmmbkhhemaaaGreatDoor.Sx
set_option linter.unusedVariables false
set_option linter.unusedSimpArgs false
/-- two amounts of one currency -/
def alk : List D0 → List D0 → Bool
  | [.str c, .bool b, .ints z], [.str c2, .bool b2, .ints z2] => moneyOk [.str c, .bool b, .ints z] && (moneyOk [.str c2, .bool b2, .ints z2] && decide (c = c2))
  | _, _ => false
/-- what is made of two amounts of one currency and an integer -/
def mres (al : Bool) (c : ByteArray) (z : Int) : Bool × List D0 := if al then (moneyOk (.str c :: enc z), moneyMk c z) else (false, zeroMoney)
theorem mres_code (al : Bool) (c : ByteArray) (z : Int) : (mres al c z).2.map D0.code = [.str, .bool, .ints] := by
  unfold mres
  split
  · exact moneyMk_code _ _
  · rfl
theorem alk_parts {c c2 : ByteArray} {b b2 : Bool} {z z2 : List Int} (h : alk [.str c, .bool b, .ints z] [.str c2, .bool b2, .ints z2] = true) : moneyOk [.str c, .bool b, .ints z] = true ∧ moneyOk [.str c2, .bool b2, .ints z2] = true ∧ c = c2 := by
  simpa [alk] using h
theorem impl_intAdd_n {w : World} {xs ys : List Value} {x y : Int} (h : Reps w xs (enc x)) (k : Reps w ys (enc y)) (hx : x.natAbs ≤ 1000000000000000000000000000000000000) (hy : y.natAbs ≤ 1000000000000000000000000000000000000) :
    Ret P n_impl_intAdd [.agg ⟨xs⟩, .agg ⟨ys⟩] w fun v w' => ∃ vs f, v = .agg ⟨vs⟩ ∧ Owns w' w.heap.size vs (enc (x + y)) f ∧ f.Nodup ∧ Ext w w' := by
  have d1 : (digs x.natAbs).length ≤ 6 := digs_len_le (by omega)
  have d2 : (digs y.natAbs).length ≤ 6 := digs_len_le (by omega)
  exact (impl_intAdd_c h k (by omega) (by omega)).mono fun v w' ⟨p, n, c, hv, ho, hx⟩ => ⟨_, _, hv, Owns.int2 ho, nodup_opt p, hx⟩
theorem spec_IntAdd_n {w : World} {xs ys : List Value} {x y : Int} (h : Reps w xs (enc x)) (k : Reps w ys (enc y)) (hx : x.natAbs ≤ 1000000000000000000000000000000000000) (hy : y.natAbs ≤ 1000000000000000000000000000000000000) :
    Ret P n_spec_IntAdd [.agg ⟨xs⟩, .agg ⟨ys⟩] w fun v w' => ∃ vs f, v = .agg ⟨vs⟩ ∧ Owns w' w.heap.size vs (enc (x + y)) f ∧ f.Nodup ∧ Ext w w' :=
  (spec_IntAdd_c h k (enc_code _) (enc_code _)).mono fun v w' ⟨vs, f, hv, ho, hn, hx'⟩ => ⟨vs, f, hv, by rwa [iadd_small (by omega) (by omega)] at ho, hn, hx'⟩
theorem spec_IntSub_n {w : World} {xs ys : List Value} {x y : Int} (h : Reps w xs (enc x)) (k : Reps w ys (enc y)) (hx : x.natAbs ≤ 1000000000000000000000000000000000000) (hy : y.natAbs ≤ 1000000000000000000000000000000000000) :
    Ret P n_spec_IntSub [.agg ⟨xs⟩, .agg ⟨ys⟩] w fun v w' => ∃ vs f, v = .agg ⟨vs⟩ ∧ Owns w' w.heap.size vs (enc (x - y)) f ∧ f.Nodup ∧ Ext w w' := by
  have d1 : (digs x.natAbs).length ≤ 6 := digs_len_le (by omega)
  have d2 : (digs (-y).natAbs).length ≤ 6 := digs_len_le (by omega)
  have d3 : (digs (x + -y).natAbs).length ≤ 6 := digs_len_le (by omega)
  have hr := h; have kr := k
  obtain ⟨a0, ap, an, ac, az, rfl, hd, ha⟩ := open_Signed h (enc_code _)
  obtain ⟨b0, bp, bn, bc, bz, rfl, he, hb⟩ := open_Signed k (enc_code _)
  refine spec_IntSub_ret ?_
  unfold spec_IntSub
  intro r w1 hn1 r1 w2 hn2 r2 w3 hn3
  have e1 := hn1.r_eq; have e2 := hn2.r_eq; have e3 := hn3.r_eq; have z1 := hn1.size; have z2 := hn2.size; have z3 := hn3.size
  have X := (hn1.ext.trans hn2.ext).trans hn3.ext
  have q0 := (hn1.blk.ext hn2.ext).ext hn3.ext; have q1 := hn2.blk.ext hn3.ext; have q2 := hn3.blk
  refine ⟨_, _, _, _, q0.loadA0 (by kernel_rfl), ?_⟩
  refine Ret.at (spec_IntOk_c (hr.ext X) (enc_code _)) ?_
  rintro v w4 ⟨hv, y4⟩
  subst hv
  rw [enc_small (show x.natAbs < _ by omega)]
  refine ⟨_, rfl, ifN (fun hh => absurd hh (by simp)) (fun _ => ⟨_, _, _, _, (q1.ext y4).loadA0 (by kernel_rfl), ?_⟩)⟩
  refine Ret.at (spec_IntOk_c (kr.ext (X.trans y4)) (enc_code _)) ?_
  rintro v w5 ⟨hv, y5⟩
  subst hv
  rw [enc_small (show y.natAbs < _ by omega)]
  refine ⟨_, rfl, ifN (fun hh => absurd hh (by simp)) (fun _ => ?_)⟩
  have Y := (y4.trans y5).trans (Ext.drew w5)
  have X5 := X.trans Y
  have lY := Y.le
  refine ⟨_, _, _, _, fun W hW => ((q0.ext Y).ext hW).loadA0 (by kernel_rfl), _, _, _, _, fun W hW => ((q1.ext Y).ext hW).loadA0 (by kernel_rfl), ?_⟩
  refine Ret.at (spec_IntNeg_c (kr.ext X5) (enc_small (by omega))) ?_
  rintro v w6 ⟨vs6, f6, hv, ho6, _, y6⟩
  subst hv
  obtain ⟨g0, gp, gn, gc, gz, rfl, _, _⟩ := open_Signed ho6.reps (enc_code _)
  have l6 := y6.le
  refine ⟨_, _, _, _, rfl, y6, ?_⟩
  refine Ret.at (spec_l04Add_c (hr.ext (X5.trans y6)) ho6.reps (by omega) (by omega)) ?_
  rintro v w7 ⟨vs7, f7, hv, ho7, nd7, y7⟩
  subst hv
  rw [icap_fit (by omega), ← Int.sub_eq_add_neg] at ho7
  obtain ⟨m0, mp, mn, mc, mz, rfl, _, _⟩ := open_Signed ho7.reps (enc_code _)
  obtain ⟨W', st', ld', ow', xx', _, _⟩ := agg_end (t := T_impl_Signed) (((q2.ext Y).ext y6).ext y7) ((X5.trans y6).trans y7) (by omega) ho7 (by kernel_rfl) rfl (by omega) (by omega)
  exact ⟨_, _, _, _, rfl, W', st', _, _, _, _, ld', _, f7, rfl, ow', nd7, xx'⟩
theorem impl_alike_c {w : World} {xs ys : List Value} {c c2 : ByteArray} {b b2 : Bool} {z z2 : List Int} (h : Reps w xs [.str c, .bool b, .ints z]) (g : Reps w ys [.str c2, .bool b2, .ints z2]) (ht : Tab w) :
    Ret P n_impl_alike [.agg ⟨xs⟩, .agg ⟨ys⟩] w fun v w' => v = .bool (alk [.str c, .bool b, .ints z] [.str c2, .bool b2, .ints z2]) ∧ Ext w w' := by
  have hr := h; have gr := g
  obtain ⟨cur, a0, ap, an, ac, az, rfl, hd, ha⟩ := open_Money h rfl
  cases hd
  obtain ⟨cur2, d0, bp, bn, bc, bz, rfl, hd, hb⟩ := open_Money g rfl
  cases hd
  refine impl_alike_ret ?_
  unfold impl_alike
  intro r w1 hn1 r1 w2 hn2
  have X := hn1.ext.trans hn2.ext
  have q0 := hn1.blk.ext hn2.ext; have q1 := hn2.blk
  refine ⟨_, _, _, _, _, q0.loadA0 (by kernel_rfl), ?_⟩
  refine Ret.at (impl_MoneyOk_c (ht.ext X) (hr.ext X) rfl) ?_
  rintro v w3 ⟨hv, y3⟩
  subst hv
  refine ⟨_, rfl, fun e => ⟨_, _, _, _, _, (q1.ext y3).loadA0 (by kernel_rfl), ?_⟩, fun e => ⟨fun hh => absurd hh (by simp), fun _ => ⟨by simp only [alk, e, Bool.false_and], X.trans y3⟩⟩⟩
  have X3 := X.trans y3
  refine Ret.at (impl_MoneyOk_c (ht.ext X3) (gr.ext X3) rfl) ?_
  rintro v w4 ⟨hv, y4⟩
  subst hv
  have Y := y3.trans y4
  exact ⟨_, rfl, fun e2 => ⟨_, (q0.ext Y).loadAt 0 rfl (by kernel_rfl) rfl, _, (q1.ext Y).loadAt 0 rfl (by kernel_rfl) rfl, by simp only [alk, e, e2, Bool.true_and], X.trans Y⟩, fun e2 => ⟨by simp only [alk, e, e2, Bool.false_and, Bool.and_false], X.trans Y⟩⟩
theorem spec_l09Both_c {w : World} {xs ys : List Value} {c c2 : ByteArray} {b b2 : Bool} {z z2 : List Int} (h : Reps w xs [.str c, .bool b, .ints z]) (g : Reps w ys [.str c2, .bool b2, .ints z2]) :
    Ret P n_spec_l09Both [.agg ⟨xs⟩, .agg ⟨ys⟩] w fun v w' => v = .bool (alk [.str c, .bool b, .ints z] [.str c2, .bool b2, .ints z2]) ∧ Ext w w' := by
  have hr := h; have gr := g
  obtain ⟨cur, a0, ap, an, ac, az, rfl, hd, ha⟩ := open_Money h rfl
  cases hd
  obtain ⟨cur2, d0, bp, bn, bc, bz, rfl, hd, hb⟩ := open_Money g rfl
  cases hd
  refine spec_l09Both_ret ?_
  unfold spec_l09Both
  intro r w1 hn1 r1 w2 hn2
  have X := hn1.ext.trans hn2.ext
  have q0 := hn1.blk.ext hn2.ext; have q1 := hn2.blk
  refine ⟨_, _, _, _, _, q0.loadA0 (by kernel_rfl), ?_⟩
  refine Ret.at (spec_MoneyOk_c (hr.ext X) rfl) ?_
  rintro v w3 ⟨hv, y3⟩
  subst hv
  refine ⟨_, rfl, fun e => ⟨_, _, _, _, _, (q1.ext y3).loadA0 (by kernel_rfl), ?_⟩, fun e => ⟨fun hh => absurd hh (by simp), fun _ => ⟨by simp only [alk, e, Bool.false_and], X.trans y3⟩⟩⟩
  have X3 := X.trans y3
  refine Ret.at (spec_MoneyOk_c (gr.ext X3) rfl) ?_
  rintro v w4 ⟨hv, y4⟩
  subst hv
  have Y := y3.trans y4
  exact ⟨_, rfl, fun e2 => ⟨_, (q0.ext Y).loadAt 0 rfl (by kernel_rfl) rfl, _, (q1.ext Y).loadAt 0 rfl (by kernel_rfl) rfl, by simp only [alk, e, e2, Bool.true_and], X.trans Y⟩, fun e2 => ⟨by simp only [alk, e, e2, Bool.false_and, Bool.and_false], X.trans Y⟩⟩
theorem impl_MoneyAdd_n {w : World} {xs ys : List Value} {c c2 : ByteArray} {b b2 : Bool} {z z2 : List Int} (h : Reps w xs [.str c, .bool b, .ints z]) (g : Reps w ys [.str c2, .bool b2, .ints z2]) (ht : Tab w) :
    Ret P n_impl_MoneyAdd [.agg ⟨xs⟩, .agg ⟨ys⟩] w fun v w' => ∃ vs f, v = .tuple #[.agg ⟨vs⟩, .bool (mres (alk [.str c, .bool b, .ints z] [.str c2, .bool b2, .ints z2]) c (ival [.bool b, .ints z] + ival [.bool b2, .ints z2])).1] ∧ Owns w' w.heap.size vs (mres (alk [.str c, .bool b, .ints z] [.str c2, .bool b2, .ints z2]) c (ival [.bool b, .ints z] + ival [.bool b2, .ints z2])).2 f ∧ f.Nodup ∧ Ext w w' := by
  have hr := h; have gr := g
  obtain ⟨cur, a0, ap, an, ac, az, rfl, hd, ha⟩ := open_Money h rfl
  cases hd
  obtain ⟨cur2, d0, bp, bn, bc, bz, rfl, hd, hb⟩ := open_Money g rfl
  cases hd
  refine impl_MoneyAdd_ret ?_
  unfold impl_MoneyAdd
  intro r w1 hn1 r1 w2 hn2 r2 w3 hn3
  have e1 := hn1.r_eq; have e2 := hn2.r_eq; have e3 := hn3.r_eq; have s1 := hn1.size; have s2 := hn2.size; have s3 := hn3.size
  have X := (hn1.ext.trans hn2.ext).trans hn3.ext
  have q0 := (hn1.blk.ext hn2.ext).ext hn3.ext; have q1 := hn2.blk.ext hn3.ext; have q2 := hn3.blk
  refine ⟨_, _, _, _, _, q0.loadA0 (by kernel_rfl), _, _, _, _, _, q1.loadA0 (by kernel_rfl), ?_⟩
  refine Ret.at (impl_alike_c (hr.ext X) (gr.ext X) (ht.ext X)) ?_
  rintro v w4 ⟨hv, y4⟩
  subst hv
  have l4 := y4.le
  generalize hal : alk [.str c, .bool b, .ints z] [.str c2, .bool b2, .ints z2] = al
  refine ⟨_, rfl, ifN (fun hno => ?_) (fun hyes => ?_)⟩
  · subst hno
    obtain ⟨W', st', ld', ow', xx', _, _⟩ := agg_end (t := T_impl_Money) (q2.ext y4) (X.trans y4) (by omega) (own_money0 w4 (r2 + 1)) (by kernel_rfl) rfl (by omega) (by omega)
    exact ⟨W', st', _, _, _, _, _, ld', _, [], rfl, ow', List.nodup_nil, xx'⟩
  subst hyes
  obtain ⟨m1, m2, rfl⟩ := alk_parts hal
  have E1 := (intOk_enc (moneyOk_int m1)).1; have E2 := (intOk_enc (moneyOk_int m2)).1
  have B1 := money_bound m1; have B2 := money_bound m2
  have Y := y4.trans (Ext.drew w4)
  have X4 := X.trans Y
  have lY := Y.le
  have k0 := q0.ext Y; have k1 := q1.ext Y; have k2 := q2.ext Y
  have hx : Reps w4.drew [.bool b, .slice ap an ac] (enc (ival [.bool b, .ints z])) := by
    rw [← E1]; exact ⟨rfl, ⟨_, _, _, rfl, ha.ext X4⟩, trivial⟩
  have hy : Reps w4.drew [.bool b2, .slice bp bn bc] (enc (ival [.bool b2, .ints z2])) := by
    rw [← E2]; exact ⟨rfl, ⟨_, _, _, rfl, hb.ext X4⟩, trivial⟩
  generalize ival [.bool b, .ints z] = U at B1 hx
  generalize ival [.bool b2, .ints z2] = V at B2 hy
  refine ⟨_, fun W hW => (k0.ext hW).loadAt 0 rfl (by kernel_rfl) rfl, _, _, _, _, fun W hW => (k0.ext hW).loadAAt 1 [.bool b, .slice ap an ac] rfl (by kernel_rfl) rfl, _, _, _, _, fun W hW => (k1.ext hW).loadAAt 1 [.bool b2, .slice bp bn bc] rfl (by kernel_rfl) rfl, ?_⟩
  refine Ret.at (impl_intAdd_n hx hy B1 B2) ?_
  rintro v w6 ⟨vs6, f6, hv, ho6, nd6, y6⟩
  subst hv
  have Z6 := y6
  obtain ⟨g0, gp, gn, gc, gz, rfl, _, _⟩ := open_Signed ho6.reps (enc_code _)
  have l6 := y6.le
  refine ⟨_, _, _, _, rfl, y6, ?_⟩
  refine Ret.at (impl_moneyOf_s (ht.ext (X4.trans y6)) c ho6 nd6 (by omega)) ?_
  rintro v w7 ⟨vs7, f7, hv, ho7, nd7, _, y7⟩
  subst hv
  obtain ⟨u0, u1, up, un, uc, uz, rfl, _, _⟩ := open_Money ho7.reps (moneyMk_code _ _)
  obtain ⟨W', st', ld', ow', xx', _, _⟩ := agg_end (t := T_impl_Money) ((k2.ext Z6).ext y7) ((X4.trans Z6).trans y7) (by omega) ho7 (by kernel_rfl) rfl (by omega) (by omega)
  exact ⟨_, _, _, _, _, _, rfl, W', st', _, _, _, _, _, ld', _, f7, rfl, ow', nd7, xx'⟩
theorem spec_MoneyAdd_n {w : World} {xs ys : List Value} {c c2 : ByteArray} {b b2 : Bool} {z z2 : List Int} (h : Reps w xs [.str c, .bool b, .ints z]) (g : Reps w ys [.str c2, .bool b2, .ints z2]) :
    Ret P n_spec_MoneyAdd [.agg ⟨xs⟩, .agg ⟨ys⟩] w fun v w' => ∃ vs f, v = .tuple #[.agg ⟨vs⟩, .bool (mres (alk [.str c, .bool b, .ints z] [.str c2, .bool b2, .ints z2]) c (ival [.bool b, .ints z] + ival [.bool b2, .ints z2])).1] ∧ Owns w' w.heap.size vs (mres (alk [.str c, .bool b, .ints z] [.str c2, .bool b2, .ints z2]) c (ival [.bool b, .ints z] + ival [.bool b2, .ints z2])).2 f ∧ f.Nodup ∧ Ext w w' := by
  have hr := h; have gr := g
  obtain ⟨cur, a0, ap, an, ac, az, rfl, hd, ha⟩ := open_Money h rfl
  cases hd
  obtain ⟨cur2, d0, bp, bn, bc, bz, rfl, hd, hb⟩ := open_Money g rfl
  cases hd
  refine spec_MoneyAdd_ret ?_
  unfold spec_MoneyAdd
  intro r w1 hn1 r1 w2 hn2 r2 w3 hn3
  have e1 := hn1.r_eq; have e2 := hn2.r_eq; have e3 := hn3.r_eq; have s1 := hn1.size; have s2 := hn2.size; have s3 := hn3.size
  have X := (hn1.ext.trans hn2.ext).trans hn3.ext
  have q0 := (hn1.blk.ext hn2.ext).ext hn3.ext; have q1 := hn2.blk.ext hn3.ext; have q2 := hn3.blk
  refine ⟨_, _, _, _, _, q0.loadA0 (by kernel_rfl), _, _, _, _, _, q1.loadA0 (by kernel_rfl), ?_⟩
  refine Ret.at (spec_l09Both_c (hr.ext X) (gr.ext X)) ?_
  rintro v w4 ⟨hv, y4⟩
  subst hv
  have l4 := y4.le
  generalize hal : alk [.str c, .bool b, .ints z] [.str c2, .bool b2, .ints z2] = al
  refine ⟨_, rfl, ifN (fun hno => ?_) (fun hyes => ?_)⟩
  · subst hno
    obtain ⟨W', st', ld', ow', xx', _, _⟩ := agg_end (t := T_impl_Money) (q2.ext y4) (X.trans y4) (by omega) (own_money0 w4 (r2 + 1)) (by kernel_rfl) rfl (by omega) (by omega)
    exact ⟨W', st', _, _, _, _, _, ld', _, [], rfl, ow', List.nodup_nil, xx'⟩
  subst hyes
  obtain ⟨m1, m2, rfl⟩ := alk_parts hal
  have E1 := (intOk_enc (moneyOk_int m1)).1; have E2 := (intOk_enc (moneyOk_int m2)).1
  have B1 := money_bound m1; have B2 := money_bound m2
  have Y := y4.trans (Ext.drew w4)
  have X4 := X.trans Y
  have lY := Y.le
  have k0 := q0.ext Y; have k1 := q1.ext Y; have k2 := q2.ext Y
  have hx : Reps w4.drew [.bool b, .slice ap an ac] (enc (ival [.bool b, .ints z])) := by
    rw [← E1]; exact ⟨rfl, ⟨_, _, _, rfl, ha.ext X4⟩, trivial⟩
  have hy : Reps w4.drew [.bool b2, .slice bp bn bc] (enc (ival [.bool b2, .ints z2])) := by
    rw [← E2]; exact ⟨rfl, ⟨_, _, _, rfl, hb.ext X4⟩, trivial⟩
  generalize ival [.bool b, .ints z] = U at B1 hx
  generalize ival [.bool b2, .ints z2] = V at B2 hy
  refine ⟨_, fun W hW => (k0.ext hW).loadAt 0 rfl (by kernel_rfl) rfl, _, _, _, _, fun W hW => (k0.ext hW).loadAAt 1 [.bool b, .slice ap an ac] rfl (by kernel_rfl) rfl, _, _, _, _, fun W hW => (k1.ext hW).loadAAt 1 [.bool b2, .slice bp bn bc] rfl (by kernel_rfl) rfl, ?_⟩
  refine Ret.at (spec_IntAdd_n hx hy B1 B2) ?_
  rintro v w6 ⟨vs6, f6, hv, ho6, nd6, y6⟩
  subst hv
  have Z6 := y6
  obtain ⟨g0, gp, gn, gc, gz, rfl, _, _⟩ := open_Signed ho6.reps (enc_code _)
  have l6 := y6.le
  refine ⟨_, _, _, _, rfl, y6, ?_⟩
  refine Ret.at (spec_l09Make_s c ho6 nd6 (by omega)) ?_
  rintro v w7 ⟨vs7, f7, hv, ho7, nd7, _, y7⟩
  subst hv
  obtain ⟨u0, u1, up, un, uc, uz, rfl, _, _⟩ := open_Money ho7.reps (moneyMk_code _ _)
  obtain ⟨W', st', ld', ow', xx', _, _⟩ := agg_end (t := T_impl_Money) ((k2.ext Z6).ext y7) ((X4.trans Z6).trans y7) (by omega) ho7 (by kernel_rfl) rfl (by omega) (by omega)
  exact ⟨_, _, _, _, _, _, rfl, W', st', _, _, _, _, _, ld', _, f7, rfl, ow', nd7, xx'⟩
theorem impl_MoneySub_n {w : World} {xs ys : List Value} {c c2 : ByteArray} {b b2 : Bool} {z z2 : List Int} (h : Reps w xs [.str c, .bool b, .ints z]) (g : Reps w ys [.str c2, .bool b2, .ints z2]) (ht : Tab w) :
    Ret P n_impl_MoneySub [.agg ⟨xs⟩, .agg ⟨ys⟩] w fun v w' => ∃ vs f, v = .tuple #[.agg ⟨vs⟩, .bool (mres (alk [.str c, .bool b, .ints z] [.str c2, .bool b2, .ints z2]) c (ival [.bool b, .ints z] - ival [.bool b2, .ints z2])).1] ∧ Owns w' w.heap.size vs (mres (alk [.str c, .bool b, .ints z] [.str c2, .bool b2, .ints z2]) c (ival [.bool b, .ints z] - ival [.bool b2, .ints z2])).2 f ∧ f.Nodup ∧ Ext w w' := by
  have hr := h; have gr := g
  obtain ⟨cur, a0, ap, an, ac, az, rfl, hd, ha⟩ := open_Money h rfl
  cases hd
  obtain ⟨cur2, d0, bp, bn, bc, bz, rfl, hd, hb⟩ := open_Money g rfl
  cases hd
  refine impl_MoneySub_ret ?_
  unfold impl_MoneySub
  intro r w1 hn1 r1 w2 hn2 r2 w3 hn3
  have e1 := hn1.r_eq; have e2 := hn2.r_eq; have e3 := hn3.r_eq; have s1 := hn1.size; have s2 := hn2.size; have s3 := hn3.size
  have X := (hn1.ext.trans hn2.ext).trans hn3.ext
  have q0 := (hn1.blk.ext hn2.ext).ext hn3.ext; have q1 := hn2.blk.ext hn3.ext; have q2 := hn3.blk
  refine ⟨_, _, _, _, _, q0.loadA0 (by kernel_rfl), _, _, _, _, _, q1.loadA0 (by kernel_rfl), ?_⟩
  refine Ret.at (impl_alike_c (hr.ext X) (gr.ext X) (ht.ext X)) ?_
  rintro v w4 ⟨hv, y4⟩
  subst hv
  have l4 := y4.le
  generalize hal : alk [.str c, .bool b, .ints z] [.str c2, .bool b2, .ints z2] = al
  refine ⟨_, rfl, ifN (fun hno => ?_) (fun hyes => ?_)⟩
  · subst hno
    obtain ⟨W', st', ld', ow', xx', _, _⟩ := agg_end (t := T_impl_Money) (q2.ext y4) (X.trans y4) (by omega) (own_money0 w4 (r2 + 1)) (by kernel_rfl) rfl (by omega) (by omega)
    exact ⟨W', st', _, _, _, _, _, ld', _, [], rfl, ow', List.nodup_nil, xx'⟩
  subst hyes
  obtain ⟨m1, m2, rfl⟩ := alk_parts hal
  have E1 := (intOk_enc (moneyOk_int m1)).1; have E2 := (intOk_enc (moneyOk_int m2)).1
  have B1 := money_bound m1; have B2 := money_bound m2
  have Y := y4.trans (Ext.drew w4)
  have X4 := X.trans Y
  have lY := Y.le
  have k0 := q0.ext Y; have k1 := q1.ext Y; have k2 := q2.ext Y
  have hx : Reps w4.drew [.bool b, .slice ap an ac] (enc (ival [.bool b, .ints z])) := by
    rw [← E1]; exact ⟨rfl, ⟨_, _, _, rfl, ha.ext X4⟩, trivial⟩
  have hy : Reps w4.drew [.bool b2, .slice bp bn bc] (enc (ival [.bool b2, .ints z2])) := by
    rw [← E2]; exact ⟨rfl, ⟨_, _, _, rfl, hb.ext X4⟩, trivial⟩
  generalize ival [.bool b, .ints z] = U at B1 hx
  generalize ival [.bool b2, .ints z2] = V at B2 hy
  refine ⟨_, fun W hW => (k0.ext hW).loadAt 0 rfl (by kernel_rfl) rfl, _, _, _, _, fun W hW => (k0.ext hW).loadAAt 1 [.bool b, .slice ap an ac] rfl (by kernel_rfl) rfl, _, _, _, _, fun W hW => (k1.ext hW).loadAAt 1 [.bool b2, .slice bp bn bc] rfl (by kernel_rfl) rfl, ?_⟩
  have d2 : (digs V.natAbs).length ≤ 6 := digs_len_le (by omega)
  refine Ret.at (impl_intNeg_c hy (by omega)) ?_
  rintro v w5 ⟨vs5, f5, hv, ho5, _, y5⟩
  subst hv
  obtain ⟨n0, np, nn, nc, nz, rfl, _, _⟩ := open_Signed ho5.reps (enc_code _)
  have l5 := y5.le
  refine ⟨_, _, _, _, rfl, y5, ?_⟩
  refine Ret.at (impl_intAdd_n (hx.ext y5) ho5.reps B1 (by omega)) ?_
  rintro v w6 ⟨vs6, f6, hv, ho6, nd6, y6⟩
  subst hv
  have Z6 := y5.trans y6
  rw [← Int.sub_eq_add_neg] at ho6
  obtain ⟨g0, gp, gn, gc, gz, rfl, _, _⟩ := open_Signed ho6.reps (enc_code _)
  have l6 := y6.le
  refine ⟨_, _, _, _, rfl, y6, ?_⟩
  refine Ret.at (impl_moneyOf_s (ht.ext (X4.trans Z6)) c ho6 nd6 (by omega)) ?_
  rintro v w7 ⟨vs7, f7, hv, ho7, nd7, _, y7⟩
  subst hv
  obtain ⟨u0, u1, up, un, uc, uz, rfl, _, _⟩ := open_Money ho7.reps (moneyMk_code _ _)
  obtain ⟨W', st', ld', ow', xx', _, _⟩ := agg_end (t := T_impl_Money) ((k2.ext Z6).ext y7) ((X4.trans Z6).trans y7) (by omega) ho7 (by kernel_rfl) rfl (by omega) (by omega)
  exact ⟨_, _, _, _, _, _, rfl, W', st', _, _, _, _, _, ld', _, f7, rfl, ow', nd7, xx'⟩
theorem spec_MoneySub_n {w : World} {xs ys : List Value} {c c2 : ByteArray} {b b2 : Bool} {z z2 : List Int} (h : Reps w xs [.str c, .bool b, .ints z]) (g : Reps w ys [.str c2, .bool b2, .ints z2]) :
    Ret P n_spec_MoneySub [.agg ⟨xs⟩, .agg ⟨ys⟩] w fun v w' => ∃ vs f, v = .tuple #[.agg ⟨vs⟩, .bool (mres (alk [.str c, .bool b, .ints z] [.str c2, .bool b2, .ints z2]) c (ival [.bool b, .ints z] - ival [.bool b2, .ints z2])).1] ∧ Owns w' w.heap.size vs (mres (alk [.str c, .bool b, .ints z] [.str c2, .bool b2, .ints z2]) c (ival [.bool b, .ints z] - ival [.bool b2, .ints z2])).2 f ∧ f.Nodup ∧ Ext w w' := by
  have hr := h; have gr := g
  obtain ⟨cur, a0, ap, an, ac, az, rfl, hd, ha⟩ := open_Money h rfl
  cases hd
  obtain ⟨cur2, d0, bp, bn, bc, bz, rfl, hd, hb⟩ := open_Money g rfl
  cases hd
  refine spec_MoneySub_ret ?_
  unfold spec_MoneySub
  intro r w1 hn1 r1 w2 hn2 r2 w3 hn3
  have e1 := hn1.r_eq; have e2 := hn2.r_eq; have e3 := hn3.r_eq; have s1 := hn1.size; have s2 := hn2.size; have s3 := hn3.size
  have X := (hn1.ext.trans hn2.ext).trans hn3.ext
  have q0 := (hn1.blk.ext hn2.ext).ext hn3.ext; have q1 := hn2.blk.ext hn3.ext; have q2 := hn3.blk
  refine ⟨_, _, _, _, _, q0.loadA0 (by kernel_rfl), _, _, _, _, _, q1.loadA0 (by kernel_rfl), ?_⟩
  refine Ret.at (spec_l09Both_c (hr.ext X) (gr.ext X)) ?_
  rintro v w4 ⟨hv, y4⟩
  subst hv
  have l4 := y4.le
  generalize hal : alk [.str c, .bool b, .ints z] [.str c2, .bool b2, .ints z2] = al
  refine ⟨_, rfl, ifN (fun hno => ?_) (fun hyes => ?_)⟩
  · subst hno
    obtain ⟨W', st', ld', ow', xx', _, _⟩ := agg_end (t := T_impl_Money) (q2.ext y4) (X.trans y4) (by omega) (own_money0 w4 (r2 + 1)) (by kernel_rfl) rfl (by omega) (by omega)
    exact ⟨W', st', _, _, _, _, _, ld', _, [], rfl, ow', List.nodup_nil, xx'⟩
  subst hyes
  obtain ⟨m1, m2, rfl⟩ := alk_parts hal
  have E1 := (intOk_enc (moneyOk_int m1)).1; have E2 := (intOk_enc (moneyOk_int m2)).1
  have B1 := money_bound m1; have B2 := money_bound m2
  have Y := y4.trans (Ext.drew w4)
  have X4 := X.trans Y
  have lY := Y.le
  have k0 := q0.ext Y; have k1 := q1.ext Y; have k2 := q2.ext Y
  have hx : Reps w4.drew [.bool b, .slice ap an ac] (enc (ival [.bool b, .ints z])) := by
    rw [← E1]; exact ⟨rfl, ⟨_, _, _, rfl, ha.ext X4⟩, trivial⟩
  have hy : Reps w4.drew [.bool b2, .slice bp bn bc] (enc (ival [.bool b2, .ints z2])) := by
    rw [← E2]; exact ⟨rfl, ⟨_, _, _, rfl, hb.ext X4⟩, trivial⟩
  generalize ival [.bool b, .ints z] = U at B1 hx
  generalize ival [.bool b2, .ints z2] = V at B2 hy
  refine ⟨_, fun W hW => (k0.ext hW).loadAt 0 rfl (by kernel_rfl) rfl, _, _, _, _, fun W hW => (k0.ext hW).loadAAt 1 [.bool b, .slice ap an ac] rfl (by kernel_rfl) rfl, _, _, _, _, fun W hW => (k1.ext hW).loadAAt 1 [.bool b2, .slice bp bn bc] rfl (by kernel_rfl) rfl, ?_⟩
  refine Ret.at (spec_IntSub_n hx hy B1 B2) ?_
  rintro v w6 ⟨vs6, f6, hv, ho6, nd6, y6⟩
  subst hv
  have Z6 := y6
  obtain ⟨g0, gp, gn, gc, gz, rfl, _, _⟩ := open_Signed ho6.reps (enc_code _)
  have l6 := y6.le
  refine ⟨_, _, _, _, rfl, y6, ?_⟩
  refine Ret.at (spec_l09Make_s c ho6 nd6 (by omega)) ?_
  rintro v w7 ⟨vs7, f7, hv, ho7, nd7, _, y7⟩
  subst hv
  obtain ⟨u0, u1, up, un, uc, uz, rfl, _, _⟩ := open_Money ho7.reps (moneyMk_code _ _)
  obtain ⟨W', st', ld', ow', xx', _, _⟩ := agg_end (t := T_impl_Money) ((k2.ext Z6).ext y7) ((X4.trans Z6).trans y7) (by omega) ho7 (by kernel_rfl) rfl (by omega) (by omega)
  exact ⟨_, _, _, _, _, _, rfl, W', st', _, _, _, _, _, ld', _, f7, rfl, ow', nd7, xx'⟩
end Go.Proofs.YtfemmmbkhhemaaaGreatDoor

namespace Go.Proofs.YtfemmmbkhhemaaaGreatDoor
open Go Go.Proofs.YtfemmmbkhhemaaaGreatDoor.Sx
set_option linter.unusedVariables false
set_option linter.unusedSimpArgs false
def taxOk : List D0 → Bool
  | [.bool b, .ints z, .int s] => decOk [.bool b, .ints z, .int s] && decide (z.length ≤ 1) && !b && decide (dcmp [.bool b, .ints z, .int s] (enc 1 ++ [.int 0]) ≤ 0)
  | _ => false
theorem spec_TaxRateOk_c {w : World} {xs : List Value} {dx : List D0} (h : Reps w xs dx) (hc : dx.map D0.code = [.bool, .ints, .int]) :
    Ret P n_spec_TaxRateOk [.agg ⟨xs⟩] w fun v w' => v = .bool (taxOk dx) ∧ Ext w w' := by
  have hr := h
  obtain ⟨a0, a1p, a1n, a1c, a1z, a2, rfl, rfl, ha⟩ := open_Dec h hc
  refine spec_TaxRateOk_ret ?_
  unfold spec_TaxRateOk
  intro r w1 hn1
  have D := Ext.drew w1
  have X := hn1.ext.trans D
  have hl := ha.1
  refine ⟨_, _, _, _, _, fun W hW => (hn1.blk.ext (D.trans hW)).loadA0 (by kernel_rfl), ?_⟩
  refine Ret.at (spec_DecOk_c (hr.ext X) rfl) ?_
  rintro v w2 ⟨hv, y2⟩
  subst hv
  have X2 := X.trans y2
  have b := (hn1.blk.ext D).ext y2
  refine ⟨_, rfl, fun e1 => ⟨_, fun W hW => (b.ext hW).loadAt 0 rfl (by kernel_rfl) rfl, fun e2 => ⟨_, _, _, fun W hW => (b.ext hW).loadAt 1 rfl (by kernel_rfl) rfl, ifD (fun hle => ?_) (fun hgt => ⟨?_, X2⟩)⟩, fun e2 => ifF ⟨?_, X2⟩⟩, fun e1 => ifF (ifF ⟨?_, X2⟩)⟩
  · refine ⟨_, _, _, _, _, fun W hW => (b.ext hW).loadA0 (by kernel_rfl), ?_⟩
    refine Ret.at (spec_IntOf_c (n := 1) (by omega) (by omega)) ?_
    rintro v w3 ⟨vs, f, hv, ho, _, y3⟩
    subst hv
    obtain ⟨g0, gp, gn, gc, gz, rfl, hg, hgi⟩ := open_Signed ho.reps (enc_code _)
    refine ⟨_, _, _, _, rfl, y3, ?_⟩
    have hone : Reps w3 [.bool g0, .slice gp gn gc, .int .i64 0] (enc 1 ++ [.int 0]) := by
      rw [hg]; exact ⟨rfl, ⟨_, _, _, rfl, hgi⟩, rfl, trivial⟩
    refine Ret.at (spec_DecCmp_c (hr.ext (X2.trans y3)) hone rfl rfl) ?_
    rintro v w4 ⟨hv, y4⟩
    subst hv
    refine ⟨_, rfl, ?_, (X2.trans y3).trans y4⟩
    have e2 : a0 = false := by simpa using e2
    subst e2
    simp only [taxOk, e1, show decide (a1z.length ≤ 1) = true by simp; omega, Bool.and_self, Bool.not_false, Bool.true_and]
  · simp only [taxOk, show decide (a1z.length ≤ 1) = false by simp; omega, Bool.and_false, Bool.false_and]
  · have e2 : a0 = true := by simpa using e2
    simp only [taxOk, e2, Bool.not_true, Bool.and_false, Bool.false_and]
  · simp only [taxOk, e1, Bool.false_and]
theorem impl_TaxRateOk_c {w : World} {xs : List Value} {dx : List D0} (h : Reps w xs dx) (hc : dx.map D0.code = [.bool, .ints, .int]) :
    Ret P n_impl_TaxRateOk [.agg ⟨xs⟩] w fun v w' => v = .bool (taxOk dx) ∧ Ext w w' := by
  have hr := h
  obtain ⟨a0, a1p, a1n, a1c, a1z, a2, rfl, rfl, ha⟩ := open_Dec h hc
  refine impl_TaxRateOk_ret ?_
  unfold impl_TaxRateOk
  intro r w1 hn1
  have D := Ext.drew w1
  have X := hn1.ext.trans D
  have hl := ha.1
  refine ⟨_, _, _, _, _, fun W hW => (hn1.blk.ext (D.trans hW)).loadA0 (by kernel_rfl), ?_⟩
  refine Ret.at (impl_DecOk_c (hr.ext X) rfl) ?_
  rintro v w2 ⟨hv, y2⟩
  subst hv
  have X2 := X.trans y2
  have b := (hn1.blk.ext D).ext y2
  refine ⟨_, rfl, fun e1 => ⟨_, _, _, fun W hW => (b.ext hW).loadAt 1 rfl (by kernel_rfl) rfl, ifD (fun hle => ⟨_, fun W hW => (b.ext hW).loadAt 0 rfl (by kernel_rfl) rfl, fun e2 => ?_, fun e2 => ⟨?_, X2⟩⟩) (fun hgt => ifF ⟨?_, X2⟩)⟩, fun e1 => ifF (ifF ⟨?_, X2⟩)⟩
  · refine ⟨_, _, _, _, _, fun W hW => (b.ext hW).loadA0 (by kernel_rfl), ?_⟩
    refine Ret.at (impl_IntOf_c (n := 1) (by omega) (by omega)) ?_
    rintro v w3 ⟨vs, f, hv, ho, _, y3⟩
    subst hv
    obtain ⟨g0, gp, gn, gc, gz, rfl, hg, hgi⟩ := open_Signed ho.reps (enc_code _)
    refine ⟨_, _, _, _, rfl, y3, ?_⟩
    have hone : Reps w3 [.bool g0, .slice gp gn gc, .int .i64 0] (enc 1 ++ [.int 0]) := by
      rw [hg]; exact ⟨rfl, ⟨_, _, _, rfl, hgi⟩, rfl, trivial⟩
    refine Ret.at (impl_DecCmp_c (hr.ext (X2.trans y3)) hone rfl rfl) ?_
    rintro v w4 ⟨hv, y4⟩
    subst hv
    refine ⟨_, rfl, ?_, (X2.trans y3).trans y4⟩
    have e2 : a0 = false := by simpa using e2
    subst e2
    simp only [taxOk, e1, show decide (a1z.length ≤ 1) = true by simp; omega, Bool.and_self, Bool.not_false, Bool.true_and]
  · have e2 : a0 = true := by simpa using e2
    simp only [taxOk, e2, Bool.not_true, Bool.and_false, Bool.false_and]
  · simp only [taxOk, show decide (a1z.length ≤ 1) = false by simp; omega, Bool.and_false, Bool.false_and]
  · simp only [taxOk, e1, Bool.false_and]
end Go.Proofs.YtfemmmbkhhemaaaGreatDoor

namespace Go.Proofs.YtfemmmbkhhemaaaGreatDoor
open Go Go.Proofs.YtfemmmbkhhemaaaGreatDoor.Sx
set_option linter.unusedVariables false
set_option linter.unusedSimpArgs false
theorem impl_RatMoney_n {w : World} {xs : List Value} {N : Int} {D : Nat} {m : Int} (cur : ByteArray) (h : Reps w xs (rmk N D)) (hok : ratOk (rmk N D) = true) (hN : (digs N.natAbs).length ≤ 10) (hD : (digs D).length ≤ 6) (ht : Tab w) :
    Ret P n_impl_RatMoney [.string cur, .agg ⟨xs⟩, .int .i64 m] w fun v w' => ∃ vs1 f1 vs2 f2, v = .tuple #[.agg ⟨vs1⟩, .agg ⟨vs2⟩, .bool (rmOk cur N D m)] ∧ Owns w' w.heap.size vs1 (rmMoney cur N D m) f1 ∧ f1.Nodup ∧ Owns w' w.heap.size vs2 (rmRest cur N D m) f2 ∧ f2.Nodup ∧ (∀ k ∈ f1, k ∉ f2) ∧ Ext w w' := by
  have hr := h
  obtain ⟨p1, n1, c1, p2, n2, c2, rfl, i1, i2, li1, li2, he, hd⟩ := rmk_open h hok
  refine impl_RatMoney_ret ?_
  unfold impl_RatMoney
  intro r w1 hn1 r1 w2 hn2 r2 w3 hn3
  have e1 := hn1.r_eq; have e2 := hn2.r_eq; have e3 := hn3.r_eq; have z1 := hn1.size; have z2 := hn2.size; have z3 := hn3.size
  have X := (hn1.ext.trans hn2.ext).trans hn3.ext
  have b0 := (hn1.blk.ext hn2.ext).ext hn3.ext; have b1 := hn2.blk.ext hn3.ext; have b2 := hn3.blk
  refine ⟨_, _, _, _, _, _, _, b0.loadA0 (by kernel_rfl), ?_⟩
  refine Ret.at (impl_RatRest_n (m := m) (hr.ext X) hok hN hD) ?_
  rintro v w4 ⟨vs4, f4, vsr, fr, hv, ho4, nd4, hor, ndr, dis, y4⟩
  subst hv
  have l4 := y4.le
  have hr4 := ho4.reps; have hrr := hor.reps
  obtain ⟨s0, sp, sn, sc, sz, rfl, _, _⟩ := open_Signed hr4 (enc_code _)
  have rcode : (rs N D m).map D0.code = [.bool, .ints, .ints] := by
    unfold rs
    split
    · exact redR_code _ _
    · rfl
  obtain ⟨g0, gp, gn, gc, gz, gp2, gn2, gc2, gz2, rfl, _, _, _⟩ := open_Rat hrr rcode
  refine ⟨_, _, _, _, _, _, _, _, _, _, _, _, rfl, ?_⟩
  intro r3 w5 hn5 r4 w6 hn6
  have e5 := hn5.r_eq; have z5 := hn5.size; have e6 := hn6.r_eq; have z6 := hn6.size
  obtain ⟨w7, st7, hb7, ch7, sz7⟩ := (hn5.blk.ext hn6.ext).storeA0 (P := P) (t := T_impl_Signed) (xs := [.bool s0, .slice sp sn sc]) (by kernel_rfl) rfl (by simp [Value.oneCell'])
  obtain ⟨w8, st8, hb8, ch8, sz8⟩ := (hn6.blk.chg ch7 (by simp; omega)).storeA0 (P := P) (t := T_impl_Rat) (xs := [.bool g0, .slice gp gn gc, .slice gp2 gn2 gc2]) (by kernel_rfl) rfl (by simp [Value.oneCell'])
  have Z : Ext w4 w8 := ((hn5.ext.trans hn6.ext).chg ch7 (by simp; omega)).chg ch8 (by simp; omega)
  have k3 := hb7.chg ch8 (by simp; omega)
  have lZ := Z.le
  have Y8 := y4.trans Z
  refine ⟨w7, st7, w8, st8, ?_⟩
  refine ifN (fun hm1 => ?_) (fun hm1 => ?_)
  · obtain ⟨W1, W2, a1, _, a2, a3, a4, a5, a6, a7⟩ := two_end (t1 := T_impl_Money) (t2 := T_impl_Rat) (b1.ext Y8) (b2.ext Y8) (X.trans Y8) (own_money0 _ (r2 + 1)) (own_rat0 _ (r2 + 1)) (by kernel_rfl) rfl (by kernel_rfl) rfl (by omega) (by omega) (by omega) (by omega) (by omega) (by omega)
    have hno : rmOk cur N D m = false := by rw [rmOk, hm1]; rfl
    exact ⟨W1, a1, W2, a2, _, _, _, _, _, a3, _, _, _, _, _, _, _, a4, _, [], _, [], by rw [hno], by rw [rmMoney, hno]; exact a5, List.nodup_nil, by rw [rmRest, hno]; exact a6, List.nodup_nil, fun k hk => by simp at hk, a7⟩
  ·
    refine ⟨_, _, _, _, k3.loadA0 (by kernel_rfl), ?_⟩
    refine Ret.at (impl_moneyOf_s (ht.ext (X.trans Y8)) cur (ho4.ext Z) nd4 (show w3.heap.size ≤ w8.heap.size by omega)) ?_
    rintro v w9 ⟨vs9, f9, hv, ho9, nd9, sub9, y9⟩
    subst hv
    have hr9 := ho9.reps
    obtain ⟨m0, m1, mp, mn, mc, mz, rfl, _, _⟩ := open_Money hr9 (moneyMk_code _ _)
    refine ⟨_, _, _, _, _, _, rfl, ?_⟩
    intro r5 w10 hn10
    have e10 := hn10.r_eq; have z10 := hn10.size; have l9 := y9.le
    obtain ⟨w11, st11, hb11, y11⟩ := hn10.fill (P := P) (t := T_impl_Money) (xs := [.string m0, .bool m1, .slice mp mn mc]) (by simp [Value.oneCell']) (by kernel_rfl) rfl
    have Y11 := (Y8.trans y9).trans y11
    refine ⟨w11, st11, ?_⟩
    refine ifN (fun hm2 => ?_) (fun hm2 => ?_)
    · obtain ⟨W1, W2, a1, _, a2, a3, a4, a5, a6, a7⟩ := two_end (t1 := T_impl_Money) (t2 := T_impl_Rat) (b1.ext Y11) (b2.ext Y11) (X.trans Y11) (own_money0 _ (r2 + 1)) (own_rat0 _ (r2 + 1)) (by kernel_rfl) rfl (by kernel_rfl) rfl (by omega) (by omega) (by omega) (by omega) (by omega) (by omega)
      have hno : rmOk cur N D m = false := by
        have z1' : rr N D m = rround N D m := by rw [rr, hm1]; rfl
        rw [z1'] at hm2
        rw [rmOk, hm1, hm2]; rfl
      exact ⟨W1, a1, W2, a2, _, _, _, _, _, a3, _, _, _, _, _, _, _, a4, _, [], _, [], by rw [hno], by rw [rmMoney, hno]; exact a5, List.nodup_nil, by rw [rmRest, hno]; exact a6, List.nodup_nil, fun k hk => by simp at hk, a7⟩
    have D' := Ext.drew w11
    have Y12 := Y11.trans D'
    have q1 := b1.ext Y12; have q2 := b2.ext Y12
    have k4 := hb8.ext ((y9.trans y11).trans D'); have k5 := hb11.ext D'
    have o1 := (ho9.ext y11).ext D'
    have o2 := (hor.ext Z).ext ((y9.trans y11).trans D')
    have l11 := y11.le
    obtain ⟨W1, W2, a1, ch1, a2, a3, a4, a5, a6, a7⟩ := two_end (t1 := T_impl_Money) (t2 := T_impl_Rat) q1 q2 (X.trans Y12) o1 o2 (by kernel_rfl) rfl (by kernel_rfl) rfl (by omega) (by omega) (by omega) (by omega) (by omega) (by omega)
    have z1' : rr N D m = rround N D m := by rw [rr, hm1]; rfl
    rw [z1'] at hm2 a5
    have hyes : rmOk cur N D m = true := by rw [rmOk, hm1, hm2]; rfl
    refine ⟨[r1], _, _, _, _, _, fun W hW => (k5.chg (show Chg [r1] w11.drew W from hW) (by simp; omega)).loadA0 (by kernel_rfl), _, _, _, _, _, _, _, fun W hW => (k4.chg (show Chg [r1] w11.drew W from hW) (by simp; omega)).loadA0 (by kernel_rfl), W1, a1, show Chg [r1] w11.drew W1 from ch1, W2, a2, _, _, _, _, _, a3, _, _, _, _, _, _, _, a4, _, f9, _, fr, by rw [hyes], ?_, nd9, ?_, ndr, fun k hk => dis k (sub9 k hk), a7⟩
    · rw [rmMoney, hyes]
      rw [moneyMk, hm2] at a5
      exact a5
    · rw [rmRest, hyes]
      rw [rs, hm1] at a6
      exact a6
theorem spec_RatMoney_n {w : World} {xs : List Value} {N : Int} {D : Nat} {m : Int} (cur : ByteArray) (h : Reps w xs (rmk N D)) (hok : ratOk (rmk N D) = true) (hN : (digs N.natAbs).length ≤ 10) (hD : (digs D).length ≤ 6) :
    Ret P n_spec_RatMoney [.string cur, .agg ⟨xs⟩, .int .i64 m] w fun v w' => ∃ vs1 f1 vs2 f2, v = .tuple #[.agg ⟨vs1⟩, .agg ⟨vs2⟩, .bool (rmOk cur N D m)] ∧ Owns w' w.heap.size vs1 (rmMoney cur N D m) f1 ∧ f1.Nodup ∧ Owns w' w.heap.size vs2 (rmRest cur N D m) f2 ∧ f2.Nodup ∧ (∀ k ∈ f1, k ∉ f2) ∧ Ext w w' := by
  have hr := h
  obtain ⟨p1, n1, c1, p2, n2, c2, rfl, i1, i2, li1, li2, he, hd⟩ := rmk_open h hok
  refine spec_RatMoney_ret ?_
  unfold spec_RatMoney
  intro r w1 hn1 r1 w2 hn2 r2 w3 hn3
  have e1 := hn1.r_eq; have e2 := hn2.r_eq; have e3 := hn3.r_eq; have z1 := hn1.size; have z2 := hn2.size; have z3 := hn3.size
  have X := (hn1.ext.trans hn2.ext).trans hn3.ext
  have b0 := (hn1.blk.ext hn2.ext).ext hn3.ext; have b1 := hn2.blk.ext hn3.ext; have b2 := hn3.blk
  refine ⟨_, _, _, _, _, _, _, b0.loadA0 (by kernel_rfl), ?_⟩
  refine Ret.at (spec_RatRest_n (m := m) (hr.ext X) hok hN hD) ?_
  rintro v w4 ⟨vs4, f4, vsr, fr, hv, ho4, nd4, hor, ndr, dis, y4⟩
  subst hv
  have l4 := y4.le
  have hr4 := ho4.reps; have hrr := hor.reps
  obtain ⟨s0, sp, sn, sc, sz, rfl, _, _⟩ := open_Signed hr4 (enc_code _)
  have rcode : (rs N D m).map D0.code = [.bool, .ints, .ints] := by
    unfold rs
    split
    · exact redR_code _ _
    · rfl
  obtain ⟨g0, gp, gn, gc, gz, gp2, gn2, gc2, gz2, rfl, _, _, _⟩ := open_Rat hrr rcode
  refine ⟨_, _, _, _, _, _, _, _, _, _, _, _, rfl, ?_⟩
  intro r3 w5 hn5 r4 w6 hn6
  have e5 := hn5.r_eq; have z5 := hn5.size; have e6 := hn6.r_eq; have z6 := hn6.size
  obtain ⟨w7, st7, hb7, ch7, sz7⟩ := (hn5.blk.ext hn6.ext).storeA0 (P := P) (t := T_impl_Signed) (xs := [.bool s0, .slice sp sn sc]) (by kernel_rfl) rfl (by simp [Value.oneCell'])
  obtain ⟨w8, st8, hb8, ch8, sz8⟩ := (hn6.blk.chg ch7 (by simp; omega)).storeA0 (P := P) (t := T_impl_Rat) (xs := [.bool g0, .slice gp gn gc, .slice gp2 gn2 gc2]) (by kernel_rfl) rfl (by simp [Value.oneCell'])
  have Z : Ext w4 w8 := ((hn5.ext.trans hn6.ext).chg ch7 (by simp; omega)).chg ch8 (by simp; omega)
  have k3 := hb7.chg ch8 (by simp; omega)
  have lZ := Z.le
  have Y8 := y4.trans Z
  refine ⟨w7, st7, w8, st8, ?_⟩
  refine ⟨_, _, _, _, k3.loadA0 (by kernel_rfl), ?_⟩
  refine Ret.at (spec_l09Make_s cur (ho4.ext Z) nd4 (show w3.heap.size ≤ w8.heap.size by omega)) ?_
  rintro v w9 ⟨vs9, f9, hv, ho9, nd9, sub9, y9⟩
  subst hv
  have hr9 := ho9.reps
  obtain ⟨m0, m1, mp, mn, mc, mz, rfl, _, _⟩ := open_Money hr9 (moneyMk_code _ _)
  refine ⟨_, _, _, _, _, _, rfl, ?_⟩
  intro r5 w10 hn10
  have e10 := hn10.r_eq; have z10 := hn10.size; have l9 := y9.le
  obtain ⟨w11, st11, hb11, y11⟩ := hn10.fill (P := P) (t := T_impl_Money) (xs := [.string m0, .bool m1, .slice mp mn mc]) (by simp [Value.oneCell']) (by kernel_rfl) rfl
  have Y11 := (Y8.trans y9).trans y11
  refine ⟨w11, st11, ?_⟩
  refine ifN (fun hm1 => ifT ?_) (fun hm1 => ifN (fun hm2 => ?_) (fun hm2 => ?_))
  · obtain ⟨W1, W2, a1, _, a2, a3, a4, a5, a6, a7⟩ := two_end (t1 := T_impl_Money) (t2 := T_impl_Rat) (b1.ext Y11) (b2.ext Y11) (X.trans Y11) (own_money0 _ (r2 + 1)) (own_rat0 _ (r2 + 1)) (by kernel_rfl) rfl (by kernel_rfl) rfl (by omega) (by omega) (by omega) (by omega) (by omega) (by omega)
    have hno : rmOk cur N D m = false := by rw [rmOk, hm1]; rfl
    exact ⟨W1, a1, W2, a2, _, _, _, _, _, a3, _, _, _, _, _, _, _, a4, _, [], _, [], by rw [hno], by rw [rmMoney, hno]; exact a5, List.nodup_nil, by rw [rmRest, hno]; exact a6, List.nodup_nil, fun k hk => by simp at hk, a7⟩
  · obtain ⟨W1, W2, a1, _, a2, a3, a4, a5, a6, a7⟩ := two_end (t1 := T_impl_Money) (t2 := T_impl_Rat) (b1.ext Y11) (b2.ext Y11) (X.trans Y11) (own_money0 _ (r2 + 1)) (own_rat0 _ (r2 + 1)) (by kernel_rfl) rfl (by kernel_rfl) rfl (by omega) (by omega) (by omega) (by omega) (by omega) (by omega)
    have hno : rmOk cur N D m = false := by
      have z1' : rr N D m = rround N D m := by rw [rr, hm1]; rfl
      rw [z1'] at hm2
      rw [rmOk, hm1, hm2]; rfl
    exact ⟨W1, a1, W2, a2, _, _, _, _, _, a3, _, _, _, _, _, _, _, a4, _, [], _, [], by rw [hno], by rw [rmMoney, hno]; exact a5, List.nodup_nil, by rw [rmRest, hno]; exact a6, List.nodup_nil, fun k hk => by simp at hk, a7⟩
  have D' := Ext.drew w11
  have Y12 := Y11.trans D'
  have q1 := b1.ext Y12; have q2 := b2.ext Y12
  have k4 := hb8.ext ((y9.trans y11).trans D'); have k5 := hb11.ext D'
  have o1 := (ho9.ext y11).ext D'
  have o2 := (hor.ext Z).ext ((y9.trans y11).trans D')
  have l11 := y11.le
  obtain ⟨W1, W2, a1, ch1, a2, a3, a4, a5, a6, a7⟩ := two_end (t1 := T_impl_Money) (t2 := T_impl_Rat) q1 q2 (X.trans Y12) o1 o2 (by kernel_rfl) rfl (by kernel_rfl) rfl (by omega) (by omega) (by omega) (by omega) (by omega) (by omega)
  have z1' : rr N D m = rround N D m := by rw [rr, hm1]; rfl
  rw [z1'] at hm2 a5
  have hyes : rmOk cur N D m = true := by rw [rmOk, hm1, hm2]; rfl
  refine ⟨[r1], _, _, _, _, _, fun W hW => (k5.chg (show Chg [r1] w11.drew W from hW) (by simp; omega)).loadA0 (by kernel_rfl), _, _, _, _, _, _, _, fun W hW => (k4.chg (show Chg [r1] w11.drew W from hW) (by simp; omega)).loadA0 (by kernel_rfl), W1, a1, show Chg [r1] w11.drew W1 from ch1, W2, a2, _, _, _, _, _, a3, _, _, _, _, _, _, _, a4, _, f9, _, fr, by rw [hyes], ?_, nd9, ?_, ndr, fun k hk => dis k (sub9 k hk), a7⟩
  · rw [rmMoney, hyes]
    rw [moneyMk, hm2] at a5
    exact a5
  · rw [rmRest, hyes]
    rw [rs, hm1] at a6
    exact a6
theorem impl_DecRat_n {w : World} {xs : List Value} {m t : Nat} (h : Reps w xs (dnn m (t : Int))) (hm : (digs m).length ≤ 6) (ht : t ≤ 30) :
    Ret P n_impl_DecRat [.agg ⟨xs⟩] w fun v w' => ∃ vs f, v = .agg ⟨vs⟩ ∧ Owns w' w.heap.size vs (redR (m : Int) (10 ^ t)) f ∧ f.Nodup ∧ Ext w w' := by
  have hr := h
  obtain ⟨a0, ap, an, ac, az, a2, rfl, hd, ha⟩ := open_Dec h rfl
  simp only [dnn, List.cons.injEq, D0.bool.injEq, D0.ints.injEq, D0.int.injEq, and_true] at hd
  obtain ⟨rfl, rfl, rfl⟩ := hd
  have hla := ha.1
  have hpow : 0 < 10 ^ t := Nat.pow_pos (by decide)
  have hten := ten_len ht
  refine impl_DecRat_ret ?_
  unfold impl_DecRat
  intro r w1 hn1 r1 w2 hn2
  have e1 := hn1.r_eq; have e2 := hn2.r_eq; have z1 := hn1.size; have z2 := hn2.size
  have X := hn1.ext.trans hn2.ext
  have b0 := hn1.blk.ext hn2.ext; have b1 := hn2.blk
  refine ⟨_, _, _, _, _, b0.loadA0 (by kernel_rfl), ?_⟩
  refine Ret.at (impl_DecOk_c (hr.ext X) rfl) ?_
  rintro v w3 ⟨hv, y3⟩
  subst hv
  rw [dnn_ok hm ⟨by omega, by omega⟩]
  refine ⟨_, rfl, ifN (fun hh => absurd hh (by simp)) (fun _ => ?_)⟩
  have D := Ext.drew w3
  have Y := y3.trans D
  have X4 := X.trans Y
  have lY := Y.le
  have b0 := b0.ext Y; have b1 := b1.ext Y
  refine ⟨_, _, _, _, fun W hW => (b0.ext hW).loadAAt 0 [.bool false, .slice ap an ac] rfl (by kernel_rfl) rfl, _, fun W hW => (b0.ext hW).loadAt 2 rfl (by kernel_rfl) rfl, ?_⟩
  intro ss w4 F1
  have S1 := (FlSt.start (o := .cells ⟨[.bool false, .slice none 0 0, .slice none 0 0]⟩ T_impl_Rat (0, 0)) w3.drew).step F1
  refine Ret.at (impl_natTen_c (k := (t : Int)) (by omega) (by omega)) ?_
  rintro v w5 ⟨p5, n5, c5, hv, o5, y5⟩
  subst hv
  rw [Int.toNat_natCast] at o5
  have l5 := o5.ints.1
  refine ⟨_, _, _, rfl, y5, ?_⟩
  intro ss1 w6 F2
  have S2 := (S1.ext y5).step F2
  have hs : Reps w6 [.bool false, .slice ap an ac] (enc (m : Int)) := by
    rw [natCast_enc]
    exact ⟨rfl, ⟨_, _, _, rfl, ha.ext (X4.trans S2.1)⟩, trivial⟩
  refine Ret.at (impl_reduce_c hs (o5.ints.ext F2.ext) hpow (by rw [Int.natAbs_natCast]; omega) (by omega)) ?_
  rintro v w7 ⟨vs7, f7, hv, ho7, nd7, y7⟩
  subst hv
  have hr7 := ho7.reps
  obtain ⟨g0, gp, gn, gc, gz, gp2, gn2, gc2, gz2, rfl, _, _, _⟩ := open_Rat hr7 (redR_code _ _)
  refine ⟨_, _, _, _, _, _, _, _, rfl, ?_⟩
  intro ss2 w8 r8 F3 G
  have S3 := (S2.ext y7).step F3
  obtain ⟨hr8, hbk⟩ := S3.get G
  have B8 : Blk w8 r8 T_impl_Rat [.bool false, .slice none 0 0, .slice none 0 0] := hbk
  obtain ⟨w9, st9, hb9, ch9, sz9⟩ := B8.storeA0 (P := P) (t := T_impl_Rat) (xs := [.bool g0, .slice gp gn gc, .slice gp2 gn2 gc2]) (by kernel_rfl) rfl (by simp [Value.oneCell'])
  have hni := Owns.notin B8 (by decide) (ho7.ext F3.ext)
  have ho9 := (ho7.ext F3.ext).chg ch9 (fun k hk hm' => hni (by simp at hm'; rwa [← hm']))
  have Z9 : Ext w3.drew w9 := S3.1.chg ch9 (by simp; exact hr8)
  have lZ := S2.1.le
  obtain ⟨W', st, ld, ow, xx, _, _⟩ := agg_end (t := T_impl_Rat) (b1.ext Z9) (X4.trans Z9) (by omega) ho9 (by kernel_rfl) rfl (by omega) (by omega)
  exact ⟨w9, st9, _, _, _, _, _, _, _, hb9.loadA0 (by kernel_rfl), W', st, _, _, _, _, _, _, _, ld, _, f7, rfl, ow, nd7, xx⟩
theorem spec_DecRat_n {w : World} {xs : List Value} {m t : Nat} (h : Reps w xs (dnn m (t : Int))) (hm : (digs m).length ≤ 6) (ht : t ≤ 30) :
    Ret P n_spec_DecRat [.agg ⟨xs⟩] w fun v w' => ∃ vs f, v = .agg ⟨vs⟩ ∧ Owns w' w.heap.size vs (redR (m : Int) (10 ^ t)) f ∧ f.Nodup ∧ Ext w w' := by
  have hr := h
  obtain ⟨a0, ap, an, ac, az, a2, rfl, hd, ha⟩ := open_Dec h rfl
  simp only [dnn, List.cons.injEq, D0.bool.injEq, D0.ints.injEq, D0.int.injEq, and_true] at hd
  obtain ⟨rfl, rfl, rfl⟩ := hd
  have hla := ha.1
  have hpow : 0 < 10 ^ t := Nat.pow_pos (by decide)
  have hten := ten_len ht
  refine spec_DecRat_ret ?_
  unfold spec_DecRat
  intro r w1 hn1 r1 w2 hn2
  have e1 := hn1.r_eq; have e2 := hn2.r_eq; have z1 := hn1.size; have z2 := hn2.size
  have X := hn1.ext.trans hn2.ext
  have b0 := hn1.blk.ext hn2.ext; have b1 := hn2.blk
  refine ⟨_, _, _, _, _, b0.loadA0 (by kernel_rfl), ?_⟩
  refine Ret.at (spec_DecOk_c (hr.ext X) rfl) ?_
  rintro v w3 ⟨hv, y3⟩
  subst hv
  rw [dnn_ok hm ⟨by omega, by omega⟩]
  refine ⟨_, rfl, ifN (fun hh => absurd hh (by simp)) (fun _ => ?_)⟩
  have D := Ext.drew w3
  have Y := y3.trans D
  have X4 := X.trans Y
  have lY := Y.le
  have b0 := b0.ext Y; have b1 := b1.ext Y
  refine ⟨_, _, _, _, fun W hW => (b0.ext hW).loadAAt 0 [.bool false, .slice ap an ac] rfl (by kernel_rfl) rfl, _, fun W hW => (b0.ext hW).loadAt 2 rfl (by kernel_rfl) rfl, ?_⟩
  intro ss w4 F1
  have S1 := (FlSt.start (o := .cells ⟨[.bool false, .slice none 0 0, .slice none 0 0]⟩ T_impl_Rat (0, 0)) w3.drew).step F1
  refine Ret.at (spec_l07Ten_c (k := (t : Int)) (by omega) (by omega)) ?_
  rintro v w5 ⟨vs5, f5, hv, o5, _, y5⟩
  subst hv
  rw [Int.toNat_natCast] at o5
  have hr5 := o5.reps
  obtain ⟨s0, sp, sn, sc, sz, rfl, _, _⟩ := open_Signed hr5 (enc_code _)
  refine ⟨_, _, _, _, rfl, y5, ?_⟩
  intro ss1 w6 F2
  have S2 := (S1.ext y5).step F2
  have hs : Reps w6 [.bool false, .slice ap an ac] (enc (m : Int)) := by
    rw [natCast_enc]
    exact ⟨rfl, ⟨_, _, _, rfl, ha.ext (X4.trans S2.1)⟩, trivial⟩
  refine Ret.at (spec_RatMake_n hs (hr5.ext F2.ext) (by rw [Int.natAbs_natCast]; omega) (by omega) hpow) ?_
  rintro v w7 ⟨vs7, f7, hv, ho7, nd7, y7⟩
  subst hv
  have hr7 := ho7.reps
  obtain ⟨g0, gp, gn, gc, gz, gp2, gn2, gc2, gz2, rfl, _, _, _⟩ := open_Rat hr7 (redR_code _ _)
  refine ⟨_, _, _, _, _, _, _, _, rfl, ?_⟩
  intro ss2 w8 r8 F3 G
  have S3 := (S2.ext y7).step F3
  obtain ⟨hr8, hbk⟩ := S3.get G
  have B8 : Blk w8 r8 T_impl_Rat [.bool false, .slice none 0 0, .slice none 0 0] := hbk
  obtain ⟨w9, st9, hb9, ch9, sz9⟩ := B8.storeA0 (P := P) (t := T_impl_Rat) (xs := [.bool g0, .slice gp gn gc, .slice gp2 gn2 gc2]) (by kernel_rfl) rfl (by simp [Value.oneCell'])
  have hni := Owns.notin B8 (by decide) (ho7.ext F3.ext)
  have ho9 := (ho7.ext F3.ext).chg ch9 (fun k hk hm' => hni (by simp at hm'; rwa [← hm']))
  have Z9 : Ext w3.drew w9 := S3.1.chg ch9 (by simp; exact hr8)
  have lZ := S2.1.le
  obtain ⟨W', st, ld, ow, xx, _, _⟩ := agg_end (t := T_impl_Rat) (b1.ext Z9) (X4.trans Z9) (by omega) ho9 (by kernel_rfl) rfl (by omega) (by omega)
  exact ⟨w9, st9, _, _, _, _, _, _, _, hb9.loadA0 (by kernel_rfl), W', st, _, _, _, _, _, _, _, ld, _, f7, rfl, ow, nd7, xx⟩
theorem impl_MoneyRat_n {w : World} {xs : List Value} {c : ByteArray} {N : Int} (h : Reps w xs (.str c :: enc N)) (hok : moneyOk (.str c :: enc N) = true) (ht : Tab w) :
    Ret P n_impl_MoneyRat [.agg ⟨xs⟩] w fun v w' => ∃ vs f, v = .agg ⟨vs⟩ ∧ Owns w' w.heap.size vs (rmk N 1) f ∧ f.Nodup ∧ Ext w w' := by
  have hr := h
  obtain ⟨t0, a0, ap, an, ac, az, rfl, hd, ha⟩ := open_Money h rfl
  simp only [enc, List.cons.injEq, D0.str.injEq, D0.bool.injEq, D0.ints.injEq, and_true] at hd
  obtain ⟨rfl, rfl, rfl⟩ := hd
  have hla := ha.1
  have h4 : (digs N.natAbs).length ≤ 4 := by
    simp only [moneyOk, enc, Bool.and_eq_true, decide_eq_true_eq] at hok
    exact hok.2
  refine impl_MoneyRat_ret ?_
  unfold impl_MoneyRat
  intro r w1 hn1 r1 w2 hn2
  have e1 := hn1.r_eq; have e2 := hn2.r_eq; have z1 := hn1.size; have z2 := hn2.size
  have X := hn1.ext.trans hn2.ext
  have b0 := hn1.blk.ext hn2.ext; have b1 := hn2.blk
  refine ⟨_, _, _, _, _, b0.loadA0 (by kernel_rfl), ?_⟩
  refine Ret.at (impl_MoneyOk_c (ht.ext X) (hr.ext X) rfl) ?_
  rintro v w3 ⟨hv, y3⟩
  subst hv
  rw [hok]
  refine ⟨_, rfl, ifN (fun hh => absurd hh (by simp)) (fun _ => ?_)⟩
  have l3 := y3.le
  have X3 := X.trans y3
  have hs : Reps w3 [.bool (decide (N < 0)), .slice ap an ac] (enc N) := ⟨rfl, ⟨_, _, _, rfl, ha.ext X3⟩, trivial⟩
  refine ⟨_, _, _, _, (b0.ext y3).loadAAt 1 [.bool (decide (N < 0)), .slice ap an ac] rfl (by kernel_rfl) rfl, ?_⟩
  refine Ret.at (impl_intCopy_c hs (enc_code _) (by simp only [bulks, enc, D0.bulk, List.map_cons, List.map_nil, List.sum_cons, List.sum_nil]; omega)) ?_
  rintro v w4 ⟨vs4, f4, hv, ho4, nd4, y4⟩
  subst hv
  have hr4 := ho4.reps
  obtain ⟨s0, sp, sn, sc, sz, rfl, _, _⟩ := open_Signed hr4 (enc_code _)
  refine ⟨_, _, _, _, rfl, ?_⟩
  intro r5 w5 hn5
  have e5 := hn5.r_eq; have z5 := hn5.size; have l4 := y4.le
  have hone : Own w5 w3.heap.size T_int 1 (some ⟨r5, 0, none⟩) 1 1 ((digs 1).map (Value.int .i64)) := by
    rw [digs_one]
    exact Own.of_blk hn5.blk (by omega) rfl (by decide)
  have ho5 := own_rmk (ho4.ext hn5.ext) hone
  obtain ⟨W', st, ld, ow, xx, _, _⟩ := agg_end (t := T_impl_Rat) ((b1.ext y3).ext (y4.trans hn5.ext)) (X3.trans (y4.trans hn5.ext)) (by omega) ho5 (by kernel_rfl) rfl (by omega) (by omega)
  refine ⟨W', st, _, _, _, _, _, _, _, ld, _, _, rfl, ow, ?_, xx⟩
  exact nodup_append nd4 (by simp) (m := w4.heap.size) (fun k hk => (ho4.lt k hk).2) (fun k hk => by simp at hk; omega)
theorem spec_MoneyRat_n {w : World} {xs : List Value} {c : ByteArray} {N : Int} (h : Reps w xs (.str c :: enc N)) (hok : moneyOk (.str c :: enc N) = true) :
    Ret P n_spec_MoneyRat [.agg ⟨xs⟩] w fun v w' => ∃ vs f, v = .agg ⟨vs⟩ ∧ Owns w' w.heap.size vs (rmk N 1) f ∧ f.Nodup ∧ Ext w w' := by
  have hr := h
  obtain ⟨t0, a0, ap, an, ac, az, rfl, hd, ha⟩ := open_Money h rfl
  simp only [enc, List.cons.injEq, D0.str.injEq, D0.bool.injEq, D0.ints.injEq, and_true] at hd
  obtain ⟨rfl, rfl, rfl⟩ := hd
  have hla := ha.1
  have h4 : (digs N.natAbs).length ≤ 4 := by
    simp only [moneyOk, enc, Bool.and_eq_true, decide_eq_true_eq] at hok
    exact hok.2
  refine spec_MoneyRat_ret ?_
  unfold spec_MoneyRat
  intro r w1 hn1 r1 w2 hn2
  have e1 := hn1.r_eq; have e2 := hn2.r_eq; have z1 := hn1.size; have z2 := hn2.size
  have X := hn1.ext.trans hn2.ext
  have b0 := hn1.blk.ext hn2.ext; have b1 := hn2.blk
  refine ⟨_, _, _, _, _, b0.loadA0 (by kernel_rfl), ?_⟩
  refine Ret.at (spec_MoneyOk_c (hr.ext X) rfl) ?_
  rintro v w3 ⟨hv, y3⟩
  subst hv
  rw [hok]
  refine ⟨_, rfl, ifN (fun hh => absurd hh (by simp)) (fun _ => ?_)⟩
  have l3 := y3.le
  have X3 := X.trans y3
  have hs : Reps w3 [.bool (decide (N < 0)), .slice ap an ac] (enc N) := ⟨rfl, ⟨_, _, _, rfl, ha.ext X3⟩, trivial⟩
  refine ⟨_, _, _, _, (b0.ext y3).loadAAt 1 [.bool (decide (N < 0)), .slice ap an ac] rfl (by kernel_rfl) rfl, ?_⟩
  refine Ret.at (spec_RatInt_n hs (by omega)) ?_
  rintro v w4 ⟨vs4, f4, hv, ho4, nd4, y4⟩
  subst hv
  rw [redR_int (by omega)] at ho4
  have hr4 := ho4.reps
  obtain ⟨g0, gp, gn, gc, gz, gp2, gn2, gc2, gz2, rfl, _, _, _⟩ := open_Rat hr4 (rmk_code _ _)
  refine ⟨_, _, _, _, _, _, _, _, rfl, ?_⟩
  intro r5 w5 hn5
  have e5 := hn5.r_eq; have z5 := hn5.size; have l4 := y4.le
  obtain ⟨w6, st6, hb6, y6⟩ := hn5.fill (P := P) (t := T_impl_Rat) (xs := [.bool g0, .slice gp gn gc, .slice gp2 gn2 gc2]) (by simp [Value.oneCell']) (by kernel_rfl) rfl
  obtain ⟨W', st, ld, ow, xx, _, _⟩ := agg_end (t := T_impl_Rat) ((b1.ext y3).ext (y4.trans y6)) (X3.trans (y4.trans y6)) (by omega) (ho4.ext y6) (by kernel_rfl) rfl (by omega) (by omega)
  exact ⟨w6, st6, _, _, _, _, _, _, _, hb6.loadA0 (by kernel_rfl), W', st, _, _, _, _, _, _, _, ld, _, _, rfl, ow, nd4, xx⟩
end Go.Proofs.YtfemmmbkhhemaaaGreatDoor

namespace Go.Proofs.YtfemmmbkhhemaaaGreatDoor
open Go Go.Proofs.YtfemmmbkhhemaaaGreatDoor.Sx
set_option linter.unusedVariables false
set_option linter.unusedSimpArgs false
theorem decOk_parts {b : Bool} {z : List Int} {s : Int} (h : decOk [.bool b, .ints z, .int s] = true) : intOk [.bool b, .ints z] = true ∧ natOk z = true ∧ Limbs z ∧ z.length ≤ 6 ∧ 0 ≤ s ∧ s ≤ 30 := by
  simp only [decOk, Bool.and_eq_true, decide_eq_true_eq] at h
  obtain ⟨⟨h1, h2⟩, h3⟩ := h
  have h4 : natOk z = true := by
    have := h1
    simp only [intOk, Bool.and_eq_true] at this
    exact this.1
  exact ⟨h1, h4, (natOk_spec.1 h4).1.1, h2, h3⟩
/-- a tax rate, as a number that is not negative -/
theorem taxOk_nn {b : Bool} {z : List Int} {s : Int} (h : taxOk [.bool b, .ints z, .int s] = true) : ∃ m t : Nat, b = false ∧ z = digs m ∧ s = (t : Int) ∧ t ≤ 30 ∧ (val z).toNat = m ∧ s.toNat = t ∧ m < 1000000000 := by
  simp only [taxOk, Bool.and_eq_true, decide_eq_true_eq, Bool.not_eq_true'] at h
  obtain ⟨⟨⟨h1, h2⟩, h3⟩, _⟩ := h
  obtain ⟨_, hno, hz, _, h4, h5⟩ := decOk_parts h1
  have hc := (natOk_spec.1 hno).1
  refine ⟨(val z).toNat, s.toNat, h3, (digs_val hc).symm, by omega, by omega, rfl, rfl, ?_⟩
  have hlt := val_lt hz
  have hp : (1000000000 : Int) ^ z.length ≤ 1000000000 := by
    match z, h2 with
    | [], _ => decide
    | [x], _ =>
      show (1000000000 : Int) ^ 1 ≤ 1000000000
      decide
    | _ :: _ :: _, h2 => simp at h2
  have := val_nonneg hz
  omega
theorem one_len {m : Nat} (h : m < 1000000000) : (digs m).length ≤ 1 := digs_len 1 (by simpa using h)
end Go.Proofs.YtfemmmbkhhemaaaGreatDoor

namespace Go.Proofs.YtfemmmbkhhemaaaGreatDoor
open Go Go.Proofs.YtfemmmbkhhemaaaGreatDoor.Sx
set_option linter.unusedVariables false
set_option linter.unusedSimpArgs false
def exN (u : Int) (m t : Nat) : Int := redN (u * redN (m : Int) (10 ^ t)) (1 * redD (m : Int) (10 ^ t))
def exD (u : Int) (m t : Nat) : Nat := redD (u * redN (m : Int) (10 ^ t)) (1 * redD (m : Int) (10 ^ t))
def taxOnT : List D0 → List D0 → Int → Bool × List D0 × List D0
  | [.str c, .bool b, .ints z], [.bool b2, .ints z2, .int s], mode =>
    if moneyOk [.str c, .bool b, .ints z] && taxOk [.bool b2, .ints z2, .int s] then
      (rmOk c (exN (ival [.bool b, .ints z]) (val z2).toNat s.toNat) (exD (ival [.bool b, .ints z]) (val z2).toNat s.toNat) mode,
       rmMoney c (exN (ival [.bool b, .ints z]) (val z2).toNat s.toNat) (exD (ival [.bool b, .ints z]) (val z2).toNat s.toNat) mode,
       rmRest c (exN (ival [.bool b, .ints z]) (val z2).toNat s.toNat) (exD (ival [.bool b, .ints z]) (val z2).toNat s.toNat) mode)
    else (false, zeroMoney, rat0)
  | _, _, _ => (false, zeroMoney, rat0)
theorem rmMoney_code (c : ByteArray) (N : Int) (D : Nat) (m : Int) : (rmMoney c N D m).map D0.code = [.str, .bool, .ints] := by unfold rmMoney; split <;> rfl
theorem restR_code (N : Int) (D : Nat) (m : Int) : (restR N D m).map D0.code = [.bool, .ints, .ints] := redR_code _ _
theorem rmRest_code (c : ByteArray) (N : Int) (D : Nat) (m : Int) : (rmRest c N D m).map D0.code = [.bool, .ints, .ints] := by
  unfold rmRest
  split
  · exact restR_code _ _ _
  · rfl
theorem redR_cnt (n : Int) (d : Nat) : tcnts (redR n d) ≤ 100 := by
  unfold redR
  split
  · rename_i h
    simp only [redOk, Bool.and_eq_true, decide_eq_true_eq] at h
    simp only [rmk, tcnts, redN_abs]
    have : redD n d = d / Nat.gcd n.natAbs d := rfl
    rw [this]
    omega
  · decide
theorem rmMoney_cnt (c : ByteArray) (N : Int) (D : Nat) (m : Int) : tcnts (rmMoney c N D m) ≤ 1000000000 := by
  unfold rmMoney
  split
  · rename_i h
    simp only [rmOk, Bool.and_eq_true] at h
    have h2 := h.2
    simp only [moneyOk, enc, Bool.and_eq_true, decide_eq_true_eq] at h2
    simp only [enc, tcnts]
    omega
  · decide
theorem rmRest_cnt (c : ByteArray) (N : Int) (D : Nat) (m : Int) : tcnts (rmRest c N D m) ≤ 1000000000 := by
  unfold rmRest
  split
  · have := redR_cnt (N * ((1 : Nat) : Int) + -(rround N D m) * (D : Int)) (D * 1)
    unfold restR
    omega
  · decide
theorem taxOnT_facts (d0 d1 : List D0) (m : Int) : ((taxOnT d0 d1 m).2.1).map D0.code = [.str, .bool, .ints] ∧ tcnts (taxOnT d0 d1 m).2.1 ≤ 1000000000 ∧ ((taxOnT d0 d1 m).2.2).map D0.code = [.bool, .ints, .ints] ∧ tcnts (taxOnT d0 d1 m).2.2 ≤ 1000000000 := by
  unfold taxOnT
  split
  · split
    · exact ⟨rmMoney_code _ _ _ _, rmMoney_cnt _ _ _ _, rmRest_code _ _ _ _, rmRest_cnt _ _ _ _⟩
    · exact ⟨rfl, by decide, rfl, by decide⟩
  · exact ⟨rfl, by decide, rfl, by decide⟩
/-- the exact tax is a valid fraction, and short -/
theorem ex_facts {u : Int} {m t : Nat} (hu : (digs u.natAbs).length ≤ 4) (hm : (digs m).length ≤ 1) (ht : t ≤ 30) :
    redOk (u * redN (m : Int) (10 ^ t)) (1 * redD (m : Int) (10 ^ t)) = true ∧ redR (u * redN (m : Int) (10 ^ t)) (1 * redD (m : Int) (10 ^ t)) = rmk (exN u m t) (exD u m t) ∧ ratOk (rmk (exN u m t) (exD u m t)) = true ∧ (digs (exN u m t).natAbs).length ≤ 10 ∧ (digs (exD u m t)).length ≤ 6 ∧
    redR (m : Int) (10 ^ t) = rmk (redN (m : Int) (10 ^ t)) (redD (m : Int) (10 ^ t)) ∧ ratOk (rmk (redN (m : Int) (10 ^ t)) (redD (m : Int) (10 ^ t))) = true := by
  have hpow : 0 < 10 ^ t := Nat.pow_pos (by decide)
  have hten := ten_len ht
  have h1 : (digs (redN (m : Int) (10 ^ t)).natAbs).length ≤ 1 := Nat.le_trans redN_len (by rw [Int.natAbs_natCast]; exact hm)
  have h2 : (digs (redD (m : Int) (10 ^ t))).length ≤ 4 := Nat.le_trans redD_len hten
  have h3 : (digs (u * redN (m : Int) (10 ^ t)).natAbs).length ≤ 5 := by rw [Int.natAbs_mul]; exact prod_len hu h1
  have h4 : (digs (1 * redD (m : Int) (10 ^ t))).length ≤ 4 := by rw [Nat.one_mul]; exact h2
  have hd : 0 < redD (m : Int) (10 ^ t) := redD_pos hpow
  have k1 := redOk_small (n := u * redN (m : Int) (10 ^ t)) (d := 1 * redD (m : Int) (10 ^ t)) (by omega) (by omega)
  have k2 := redR_yes k1
  have k3 := redR_ok (n := u * redN (m : Int) (10 ^ t)) (d := 1 * redD (m : Int) (10 ^ t)) (by omega) k1
  have k4 := redOk_small (n := (m : Int)) (d := 10 ^ t) (by rw [Int.natAbs_natCast]; omega) (by omega)
  have k5 := redR_yes k4
  have k6 := redR_ok hpow k4
  have k7 : (digs (exN u m t).natAbs).length ≤ 5 := Nat.le_trans redN_len h3
  have k8 : (digs (exD u m t)).length ≤ 4 := Nat.le_trans redD_len h4
  exact ⟨k1, k2, by rw [k2] at k3; exact k3, by omega, by omega, k5, by rw [k5] at k6; exact k6⟩
theorem impl_TaxOn_o {w : World} {xs ys : List Value} {dx dy : List D0} (h : Reps w xs dx) (g : Reps w ys dy) (hc : dx.map D0.code = [.str, .bool, .ints]) (gc : dy.map D0.code = [.bool, .ints, .int]) (mode : Int) (ht : Tab w) :
    Ret P n_impl_TaxOn [.agg ⟨xs⟩, .agg ⟨ys⟩, .int .i64 mode] w fun v w' => ∃ vs0 f0 vs1 f1, v = .tuple #[.agg ⟨vs0⟩, .agg ⟨vs1⟩, .bool (taxOnT dx dy mode).1] ∧ Owns w' w.heap.size vs0 (taxOnT dx dy mode).2.1 f0 ∧ f0.Nodup ∧ Owns w' w.heap.size vs1 (taxOnT dx dy mode).2.2 f1 ∧ f1.Nodup ∧ (∀ k ∈ f0, k ∉ f1) ∧ Ext w w' := by
  have hr := h; have gr := g; have htb := ht
  obtain ⟨cur, a0, ap, an, ac, az, rfl, rfl, ha⟩ := open_Money h hc
  obtain ⟨b0', bp, bn, bc, bz, b2', rfl, rfl, hb⟩ := open_Dec g gc
  refine impl_TaxOn_ret ?_
  unfold impl_TaxOn
  intro r w1 hn1 r1 w2 hn2 r2 w3 hn3 r3 w4 hn4
  have e1 := hn1.r_eq; have e2 := hn2.r_eq; have e3 := hn3.r_eq; have e4 := hn4.r_eq; have z1 := hn1.size; have z2 := hn2.size; have z3 := hn3.size; have z4 := hn4.size
  have X := ((hn1.ext.trans hn2.ext).trans hn3.ext).trans hn4.ext
  have b0 := ((hn1.blk.ext hn2.ext).ext hn3.ext).ext hn4.ext; have b1 := (hn2.blk.ext hn3.ext).ext hn4.ext; have b2 := hn3.blk.ext hn4.ext; have b3 := hn4.blk
  have zero : ∀ W, Ext w4 W → (moneyOk [.str cur, .bool a0, .ints az] && taxOk [.bool b0', .ints bz, .int b2']) = false → ∃ W1, Stores P T_impl_Money ⟨r2, 0, none⟩ (.agg ⟨[.string ByteArray.empty, .bool false, .slice none 0 0]⟩) W W1 ∧ ∃ W2, Stores P T_impl_Rat ⟨r3, 0, none⟩ (.agg ⟨[.bool false, .slice none 0 0, .slice none 0 0]⟩) W1 W2 ∧ Loads P T_impl_Money ⟨r2, 0, none⟩ (.agg ⟨[.string ByteArray.empty, .bool false, .slice none 0 0]⟩) W2 ∧ Loads P T_impl_Rat ⟨r3, 0, none⟩ (.agg ⟨[.bool false, .slice none 0 0, .slice none 0 0]⟩) W2 ∧ Owns W2 w.heap.size [.string ByteArray.empty, .bool false, .slice none 0 0] zeroMoney [] ∧ Owns W2 w.heap.size [.bool false, .slice none 0 0, .slice none 0 0] rat0 [] ∧ Ext w W2 ∧ taxOnT [.str cur, .bool a0, .ints az] [.bool b0', .ints bz, .int b2'] mode = (false, zeroMoney, rat0) := by
    intro W hW hno
    obtain ⟨W1, W2, a1, _, a2, a3, a4, a5, a6, a7⟩ := two_end (t1 := T_impl_Money) (t2 := T_impl_Rat) (b2.ext hW) (b3.ext hW) (X.trans hW) (own_money0 W (r3 + 1)) (own_rat0 W (r3 + 1)) (by kernel_rfl) rfl (by kernel_rfl) rfl (by omega) (by omega) (by omega) (by omega) (by omega) (by omega)
    exact ⟨W1, a1, W2, a2, a3, a4, a5, a6, a7, by simp only [taxOnT, hno, Bool.false_eq_true, if_false]⟩
  refine ⟨_, _, _, _, _, b0.loadA0 (by kernel_rfl), ?_⟩
  refine Ret.at (impl_MoneyOk_c (ht.ext X) (hr.ext X) rfl) ?_
  rintro v w5 ⟨hv, y5⟩
  subst hv
  refine ⟨_, rfl, ifN (fun hno => ifT ?_) (fun hm => ⟨_, _, _, _, _, (b1.ext y5).loadA0 (by kernel_rfl), ?_⟩)⟩
  · obtain ⟨W1, a1, W2, a2, a3, a4, a5, a6, a7, a8⟩ := zero _ y5 (by rw [hno]; rfl)
    rw [a8]
    exact ⟨W1, a1, W2, a2, _, _, _, _, _, a3, _, _, _, _, _, _, _, a4, _, [], _, [], rfl, a5, List.nodup_nil, a6, List.nodup_nil, fun k hk => by simp at hk, a7⟩
  refine Ret.at (impl_TaxRateOk_c (gr.ext (X.trans y5)) rfl) ?_
  rintro v w6 ⟨hv, y6⟩
  subst hv
  have Y6 := y5.trans y6
  refine ⟨_, rfl, ifN (fun hno => ?_) (fun ht => ?_)⟩
  · obtain ⟨W1, a1, W2, a2, a3, a4, a5, a6, a7, a8⟩ := zero _ Y6 (by rw [hno, Bool.and_false])
    rw [a8]
    exact ⟨W1, a1, W2, a2, _, _, _, _, _, a3, _, _, _, _, _, _, _, a4, _, [], _, [], rfl, a5, List.nodup_nil, a6, List.nodup_nil, fun k hk => by simp at hk, a7⟩
  have hres : taxOnT [.str cur, .bool a0, .ints az] [.bool b0', .ints bz, .int b2'] mode = (rmOk cur (exN (ival [.bool a0, .ints az]) (val bz).toNat b2'.toNat) (exD (ival [.bool a0, .ints az]) (val bz).toNat b2'.toNat) mode, rmMoney cur (exN (ival [.bool a0, .ints az]) (val bz).toNat b2'.toNat) (exD (ival [.bool a0, .ints az]) (val bz).toNat b2'.toNat) mode, rmRest cur (exN (ival [.bool a0, .ints az]) (val bz).toNat b2'.toNat) (exD (ival [.bool a0, .ints az]) (val bz).toNat b2'.toNat) mode) := by
    simp only [taxOnT, hm, ht, Bool.and_self, if_true]
  rw [hres]
  obtain ⟨m, t, rfl, rfl, rfl, ht30, em, et, hm9⟩ := taxOk_nn ht
  rw [em, et]
  have henc := (intOk_enc (moneyOk_int hm)).1
  generalize ival [.bool a0, .ints az] = U at henc
  have hm' : moneyOk (.str cur :: enc U) = true := by rw [← henc]; exact hm
  have hl4 : (digs U.natAbs).length ≤ 4 := by
    simp only [moneyOk, enc, Bool.and_eq_true, decide_eq_true_eq] at hm'
    exact hm'.2
  obtain ⟨k1, k2, k3, k4, k5, k6, k7⟩ := ex_facts hl4 (one_len hm9) ht30
  unfold impl_TaxOn_j0
  have D := Ext.drew w6
  have Y := Y6.trans D
  have X7 := X.trans Y
  have lY := Y.le
  have b0 := b0.ext Y; have b1 := b1.ext Y; have b2 := b2.ext Y; have b3 := b3.ext Y
  refine ⟨_, _, _, _, _, fun W hW => (b0.ext hW).loadA0 (by kernel_rfl), ?_⟩
  intro ss w8 F1
  have S1 := (FlSt.start (o := .cells ⟨[.bool false, .slice none 0 0, .slice none 0 0]⟩ T_impl_Rat (0, 0)) w6.drew).step F1
  have hmr : Reps w8 [.string cur, .bool a0, .slice ap an ac] (.str cur :: enc U) := by
    rw [← henc]
    exact hr.ext (X7.trans S1.1)
  refine Ret.at (impl_MoneyRat_n hmr hm' (htb.ext (X7.trans S1.1))) ?_
  rintro v w9 ⟨vs9, f9, hv, ho9, _, y9⟩
  subst hv
  have hr9 := ho9.reps
  obtain ⟨s0, sp, sn, sc, sz, sp2, sn2, sc2, sz2, rfl, _, _, _⟩ := open_Rat hr9 (rmk_code _ _)
  refine ⟨_, _, _, _, _, _, _, rfl, y9, _, _, _, _, _, fun W hW => (b1.ext hW).loadA0 (by kernel_rfl), ?_⟩
  intro ss1 w10 F2
  have S2 := (S1.ext y9).step F2
  have hdr : Reps w10 [.bool false, .slice bp bn bc, .int .i64 (t : Int)] (dnn m (t : Int)) := gr.ext (X7.trans S2.1)
  refine Ret.at (impl_DecRat_n hdr (Nat.le_trans (one_len hm9) (by decide)) ht30) ?_
  rintro v w11 ⟨vs11, f11, hv, ho11, _, y11⟩
  subst hv
  rw [k6] at ho11
  have hr11 := ho11.reps
  obtain ⟨u0, up, un, uc, uz, up2, un2, uc2, uz2, rfl, _, _, _⟩ := open_Rat hr11 (rmk_code _ _)
  refine ⟨_, _, _, _, _, _, _, rfl, ?_⟩
  intro ss2 w12 F3
  have S3 := (S2.ext y11).step F3
  refine Ret.at (impl_RatMul_n (hr9.ext ((F2.ext.trans y11).trans F3.ext)) (hr11.ext F3.ext) (rmk_int_ok (by omega)) k7) ?_
  rintro v w13 ⟨vs13, f13, hv, ho13, _, y13⟩
  subst hv
  rw [k2] at ho13
  rw [k1]
  have hr13 := ho13.reps
  obtain ⟨g0, gp, gn, gc', gz, gp2, gn2, gc2, gz2, rfl, _, _, _⟩ := open_Rat hr13 (rmk_code _ _)
  refine ⟨_, _, _, _, _, _, _, _, rfl, ?_⟩
  intro ss3 w14 r8 F4 G
  have S4 := (S3.ext y13).step F4
  obtain ⟨hr8, hbk⟩ := S4.get G
  have B8 : Blk w14 r8 T_impl_Rat [.bool false, .slice none 0 0, .slice none 0 0] := hbk
  obtain ⟨w15, st15, hb15, ch15, sz15⟩ := B8.storeA0 (P := P) (t := T_impl_Rat) (xs := [.bool g0, .slice gp gn gc', .slice gp2 gn2 gc2]) (by kernel_rfl) rfl (by simp [Value.oneCell'])
  have hni := Owns.notin B8 (by decide) (ho13.ext F4.ext)
  have ho15 := (ho13.ext F4.ext).chg ch15 (fun k hk hm' => hni (by simp at hm'; rwa [← hm']))
  have Z : Ext w6.drew w15 := S4.1.chg ch15 (by simp; exact hr8)
  have X15 := X7.trans Z
  have lZ := Z.le
  refine ⟨w15, st15, ?_⟩
  refine ifN (fun hh => absurd hh (by simp)) (fun _ => ?_)
  refine ⟨_, (b0.ext Z).loadAt 0 rfl (by kernel_rfl) rfl, _, _, _, _, _, _, _, hb15.loadA0 (by kernel_rfl), ?_⟩
  refine Ret.at (impl_RatMoney_n (m := mode) cur ho15.reps k3 k4 k5 (htb.ext X15)) ?_
  rintro v w16 ⟨vs16, f16, vsr, fr, hv, ho16, nd16, hor, ndr, dis, y16⟩
  subst hv
  have hr16 := ho16.reps; have hrr := hor.reps
  obtain ⟨m0, m1, mp, mn, mc, mz, rfl, _, _⟩ := open_Money hr16 (rmMoney_code _ _ _ _)
  obtain ⟨v0, vp, vn, vc, vz, vp2, vn2, vc2, vz2, rfl, _, _, _⟩ := open_Rat hrr (rmRest_code _ _ _ _)
  have Y16 := Z.trans y16
  obtain ⟨W1, W2, a1, _, a2, a3, a4, a5, a6, a7⟩ := two_end (t1 := T_impl_Money) (t2 := T_impl_Rat) (b2.ext Y16) (b3.ext Y16) (X7.trans Y16) ho16 hor (by kernel_rfl) rfl (by kernel_rfl) rfl (by omega) (by omega) (by omega) (by omega) (by omega) (by omega)
  exact ⟨_, _, _, _, _, _, _, _, _, _, _, _, _, rfl, W1, a1, W2, a2, _, _, _, _, _, a3, _, _, _, _, _, _, _, a4, _, f16, _, fr, rfl, a5, nd16, a6, ndr, dis, a7⟩
theorem spec_TaxOn_o {w : World} {xs ys : List Value} {dx dy : List D0} (h : Reps w xs dx) (g : Reps w ys dy) (hc : dx.map D0.code = [.str, .bool, .ints]) (gc : dy.map D0.code = [.bool, .ints, .int]) (mode : Int) :
    Ret P n_spec_TaxOn [.agg ⟨xs⟩, .agg ⟨ys⟩, .int .i64 mode] w fun v w' => ∃ vs0 f0 vs1 f1, v = .tuple #[.agg ⟨vs0⟩, .agg ⟨vs1⟩, .bool (taxOnT dx dy mode).1] ∧ Owns w' w.heap.size vs0 (taxOnT dx dy mode).2.1 f0 ∧ f0.Nodup ∧ Owns w' w.heap.size vs1 (taxOnT dx dy mode).2.2 f1 ∧ f1.Nodup ∧ (∀ k ∈ f0, k ∉ f1) ∧ Ext w w' := by
  have hr := h; have gr := g
  obtain ⟨cur, a0, ap, an, ac, az, rfl, rfl, ha⟩ := open_Money h hc
  obtain ⟨b0', bp, bn, bc, bz, b2', rfl, rfl, hb⟩ := open_Dec g gc
  refine spec_TaxOn_ret ?_
  unfold spec_TaxOn
  intro r w1 hn1 r1 w2 hn2 r2 w3 hn3 r3 w4 hn4
  have e1 := hn1.r_eq; have e2 := hn2.r_eq; have e3 := hn3.r_eq; have e4 := hn4.r_eq; have z1 := hn1.size; have z2 := hn2.size; have z3 := hn3.size; have z4 := hn4.size
  have X := ((hn1.ext.trans hn2.ext).trans hn3.ext).trans hn4.ext
  have b0 := ((hn1.blk.ext hn2.ext).ext hn3.ext).ext hn4.ext; have b1 := (hn2.blk.ext hn3.ext).ext hn4.ext; have b2 := hn3.blk.ext hn4.ext; have b3 := hn4.blk
  have zero : ∀ W, Ext w4 W → (moneyOk [.str cur, .bool a0, .ints az] && taxOk [.bool b0', .ints bz, .int b2']) = false → ∃ W1, Stores P T_impl_Money ⟨r2, 0, none⟩ (.agg ⟨[.string ByteArray.empty, .bool false, .slice none 0 0]⟩) W W1 ∧ ∃ W2, Stores P T_impl_Rat ⟨r3, 0, none⟩ (.agg ⟨[.bool false, .slice none 0 0, .slice none 0 0]⟩) W1 W2 ∧ Loads P T_impl_Money ⟨r2, 0, none⟩ (.agg ⟨[.string ByteArray.empty, .bool false, .slice none 0 0]⟩) W2 ∧ Loads P T_impl_Rat ⟨r3, 0, none⟩ (.agg ⟨[.bool false, .slice none 0 0, .slice none 0 0]⟩) W2 ∧ Owns W2 w.heap.size [.string ByteArray.empty, .bool false, .slice none 0 0] zeroMoney [] ∧ Owns W2 w.heap.size [.bool false, .slice none 0 0, .slice none 0 0] rat0 [] ∧ Ext w W2 ∧ taxOnT [.str cur, .bool a0, .ints az] [.bool b0', .ints bz, .int b2'] mode = (false, zeroMoney, rat0) := by
    intro W hW hno
    obtain ⟨W1, W2, a1, _, a2, a3, a4, a5, a6, a7⟩ := two_end (t1 := T_impl_Money) (t2 := T_impl_Rat) (b2.ext hW) (b3.ext hW) (X.trans hW) (own_money0 W (r3 + 1)) (own_rat0 W (r3 + 1)) (by kernel_rfl) rfl (by kernel_rfl) rfl (by omega) (by omega) (by omega) (by omega) (by omega) (by omega)
    exact ⟨W1, a1, W2, a2, a3, a4, a5, a6, a7, by simp only [taxOnT, hno, Bool.false_eq_true, if_false]⟩
  refine ⟨_, _, _, _, _, b0.loadA0 (by kernel_rfl), ?_⟩
  refine Ret.at (spec_MoneyOk_c (hr.ext X) rfl) ?_
  rintro v w5 ⟨hv, y5⟩
  subst hv
  refine ⟨_, rfl, ifN (fun hno => ifT ?_) (fun hm => ⟨_, _, _, _, _, (b1.ext y5).loadA0 (by kernel_rfl), ?_⟩)⟩
  · obtain ⟨W1, a1, W2, a2, a3, a4, a5, a6, a7, a8⟩ := zero _ y5 (by rw [hno]; rfl)
    rw [a8]
    exact ⟨W1, a1, W2, a2, _, _, _, _, _, a3, _, _, _, _, _, _, _, a4, _, [], _, [], rfl, a5, List.nodup_nil, a6, List.nodup_nil, fun k hk => by simp at hk, a7⟩
  refine Ret.at (spec_TaxRateOk_c (gr.ext (X.trans y5)) rfl) ?_
  rintro v w6 ⟨hv, y6⟩
  subst hv
  have Y6 := y5.trans y6
  refine ⟨_, rfl, ifN (fun hno => ?_) (fun ht => ?_)⟩
  · obtain ⟨W1, a1, W2, a2, a3, a4, a5, a6, a7, a8⟩ := zero _ Y6 (by rw [hno, Bool.and_false])
    rw [a8]
    exact ⟨W1, a1, W2, a2, _, _, _, _, _, a3, _, _, _, _, _, _, _, a4, _, [], _, [], rfl, a5, List.nodup_nil, a6, List.nodup_nil, fun k hk => by simp at hk, a7⟩
  have hres : taxOnT [.str cur, .bool a0, .ints az] [.bool b0', .ints bz, .int b2'] mode = (rmOk cur (exN (ival [.bool a0, .ints az]) (val bz).toNat b2'.toNat) (exD (ival [.bool a0, .ints az]) (val bz).toNat b2'.toNat) mode, rmMoney cur (exN (ival [.bool a0, .ints az]) (val bz).toNat b2'.toNat) (exD (ival [.bool a0, .ints az]) (val bz).toNat b2'.toNat) mode, rmRest cur (exN (ival [.bool a0, .ints az]) (val bz).toNat b2'.toNat) (exD (ival [.bool a0, .ints az]) (val bz).toNat b2'.toNat) mode) := by
    simp only [taxOnT, hm, ht, Bool.and_self, if_true]
  rw [hres]
  obtain ⟨m, t, rfl, rfl, rfl, ht30, em, et, hm9⟩ := taxOk_nn ht
  rw [em, et]
  have henc := (intOk_enc (moneyOk_int hm)).1
  generalize ival [.bool a0, .ints az] = U at henc
  have hm' : moneyOk (.str cur :: enc U) = true := by rw [← henc]; exact hm
  have hl4 : (digs U.natAbs).length ≤ 4 := by
    simp only [moneyOk, enc, Bool.and_eq_true, decide_eq_true_eq] at hm'
    exact hm'.2
  obtain ⟨k1, k2, k3, k4, k5, k6, k7⟩ := ex_facts hl4 (one_len hm9) ht30
  unfold spec_TaxOn_j0
  have D := Ext.drew w6
  have Y := Y6.trans D
  have X7 := X.trans Y
  have lY := Y.le
  have b0 := b0.ext Y; have b1 := b1.ext Y; have b2 := b2.ext Y; have b3 := b3.ext Y
  refine ⟨_, _, _, _, _, fun W hW => (b0.ext hW).loadA0 (by kernel_rfl), ?_⟩
  intro ss w8 F1
  have S1 := (FlSt.start (o := .cells ⟨[.bool false, .slice none 0 0, .slice none 0 0]⟩ T_impl_Rat (0, 0)) w6.drew).step F1
  have hmr : Reps w8 [.string cur, .bool a0, .slice ap an ac] (.str cur :: enc U) := by
    rw [← henc]
    exact hr.ext (X7.trans S1.1)
  refine Ret.at (spec_MoneyRat_n hmr hm' ) ?_
  rintro v w9 ⟨vs9, f9, hv, ho9, _, y9⟩
  subst hv
  have hr9 := ho9.reps
  obtain ⟨s0, sp, sn, sc, sz, sp2, sn2, sc2, sz2, rfl, _, _, _⟩ := open_Rat hr9 (rmk_code _ _)
  refine ⟨_, _, _, _, _, _, _, rfl, y9, _, _, _, _, _, fun W hW => (b1.ext hW).loadA0 (by kernel_rfl), ?_⟩
  intro ss1 w10 F2
  have S2 := (S1.ext y9).step F2
  have hdr : Reps w10 [.bool false, .slice bp bn bc, .int .i64 (t : Int)] (dnn m (t : Int)) := gr.ext (X7.trans S2.1)
  refine Ret.at (spec_DecRat_n hdr (Nat.le_trans (one_len hm9) (by decide)) ht30) ?_
  rintro v w11 ⟨vs11, f11, hv, ho11, _, y11⟩
  subst hv
  rw [k6] at ho11
  have hr11 := ho11.reps
  obtain ⟨u0, up, un, uc, uz, up2, un2, uc2, uz2, rfl, _, _, _⟩ := open_Rat hr11 (rmk_code _ _)
  refine ⟨_, _, _, _, _, _, _, rfl, ?_⟩
  intro ss2 w12 F3
  have S3 := (S2.ext y11).step F3
  refine Ret.at (spec_RatMul_n (hr9.ext ((F2.ext.trans y11).trans F3.ext)) (hr11.ext F3.ext) (rmk_int_ok (by omega)) k7) ?_
  rintro v w13 ⟨vs13, f13, hv, ho13, _, y13⟩
  subst hv
  rw [k2] at ho13
  rw [k1]
  have hr13 := ho13.reps
  obtain ⟨g0, gp, gn, gc', gz, gp2, gn2, gc2, gz2, rfl, _, _, _⟩ := open_Rat hr13 (rmk_code _ _)
  refine ⟨_, _, _, _, _, _, _, _, rfl, ?_⟩
  intro ss3 w14 r8 F4 G
  have S4 := (S3.ext y13).step F4
  obtain ⟨hr8, hbk⟩ := S4.get G
  have B8 : Blk w14 r8 T_impl_Rat [.bool false, .slice none 0 0, .slice none 0 0] := hbk
  obtain ⟨w15, st15, hb15, ch15, sz15⟩ := B8.storeA0 (P := P) (t := T_impl_Rat) (xs := [.bool g0, .slice gp gn gc', .slice gp2 gn2 gc2]) (by kernel_rfl) rfl (by simp [Value.oneCell'])
  have hni := Owns.notin B8 (by decide) (ho13.ext F4.ext)
  have ho15 := (ho13.ext F4.ext).chg ch15 (fun k hk hm' => hni (by simp at hm'; rwa [← hm']))
  have Z : Ext w6.drew w15 := S4.1.chg ch15 (by simp; exact hr8)
  have X15 := X7.trans Z
  have lZ := Z.le
  refine ⟨w15, st15, ?_⟩
  refine ⟨_, (b0.ext Z).loadAt 0 rfl (by kernel_rfl) rfl, _, _, _, _, _, _, _, hb15.loadA0 (by kernel_rfl), ?_⟩
  refine Ret.at (spec_RatMoney_n (m := mode) cur ho15.reps k3 k4 k5) ?_
  rintro v w16 ⟨vs16, f16, vsr, fr, hv, ho16, nd16, hor, ndr, dis, y16⟩
  subst hv
  have hr16 := ho16.reps; have hrr := hor.reps
  obtain ⟨m0, m1, mp, mn, mc, mz, rfl, _, _⟩ := open_Money hr16 (rmMoney_code _ _ _ _)
  obtain ⟨v0, vp, vn, vc, vz, vp2, vn2, vc2, vz2, rfl, _, _, _⟩ := open_Rat hrr (rmRest_code _ _ _ _)
  have Y16 := Z.trans y16
  obtain ⟨W1, W2, a1, _, a2, a3, a4, a5, a6, a7⟩ := two_end (t1 := T_impl_Money) (t2 := T_impl_Rat) (b2.ext Y16) (b3.ext Y16) (X7.trans Y16) ho16 hor (by kernel_rfl) rfl (by kernel_rfl) rfl (by omega) (by omega) (by omega) (by omega) (by omega) (by omega)
  exact ⟨_, _, _, _, _, _, _, _, _, _, _, _, _, rfl, W1, a1, W2, a2, _, _, _, _, _, a3, _, _, _, _, _, _, _, a4, _, f16, _, fr, rfl, a5, nd16, a6, ndr, dis, a7⟩
end Go.Proofs.YtfemmmbkhhemaaaGreatDoor

namespace Go.Proofs.YtfemmmbkhhemaaaGreatDoor
open Go Go.Proofs.YtfemmmbkhhemaaaGreatDoor.Sx
set_option linter.unusedVariables false
set_option linter.unusedSimpArgs false
/-- a list copied into a new row as long as it is -/
theorem Sx.copyI {w : World} {r : Nat} {q : Option Addr} {n d : Nat} {ys zs : List Int} (hb : Blk w r T_int (zs.map (Value.int .i64))) (hz : zs.length = n) (k : IntsR w q n d ys) :
    ∃ w', Copies P [T_s_int, T_s_int] [.slice (some ⟨r, 0, none⟩) n n, .slice q n d] (goInt n) w w' ∧ Blk w' r T_int (ys.map (Value.int .i64)) ∧ Chg [r] w w' ∧ w'.heap.size = w.heap.size := by
  obtain ⟨hu, hi, hz0, hs⟩ := sliceT_int
  cases hinf : P.info? T_int with
  | none => rw [hinf] at hi; cases hi
  | some i =>
    rw [hinf] at hi
    simp only [Option.map_some, Option.some.injEq, Prod.mk.injEq] at hi
    have hy := k.1
    cases q with
    | none =>
      have hm0 : n = 0 := by
        rcases Nat.eq_zero_or_pos n with h0 | h0
        · exact h0
        · obtain ⟨b, off, hp, _⟩ := k.2.2.2 h0; cases hp
      subst hm0
      have h1 : ys = [] := List.eq_nil_of_length_eq_zero hy
      have h2 : zs = [] := List.eq_nil_of_length_eq_zero hz
      subst h1; subst h2
      refine ⟨w, ?_, hb, Chg.refl _ _, rfl⟩
      show (Builtin.copy_ #[T_s_int, T_s_int] 0 #[.slice (some ⟨r, 0, none⟩) 0 0, .slice none 0 d]).run P w = .ok (goInt 0) w
      simp [Builtin.copy_, run_underlying hu, Builtin.lenOf, Builtin.firstCells, sizeOf, typeInfo, hinf, storeCells]
    | some a =>
      have hcells : ∀ j u, (ys.map (Value.int .i64))[j]? = some u → w.cell? (a.add j) = some u := by
        intro j u hj
        have hl : j < n := by
          have := (List.getElem?_eq_some_iff.1 hj).1
          rw [List.length_map, hy] at this; exact this
        obtain ⟨b, off, hp, hseg⟩ := k.2.2.2 (by omega)
        cases hp
        rw [addr_add]
        exact hseg j u hj
      have := run_copy_row (P := P) w T_s_int T_s_int 0 T_int r 0 n n a n d ⟨zs.map (Value.int .i64)⟩ T_int (ys.map (Value.int .i64)) hu (by rw [hinf]; simp [hi.2.1]) hb (by simp [hy]) hcells (by simp [hy, hz]) (by simp [Value.oneCell'])
      have e : ((⟨zs.map (Value.int .i64)⟩ : Array Value).toList.take 0 ++ ys.map (Value.int .i64) ++ (⟨zs.map (Value.int .i64)⟩ : Array Value).toList.drop (0 + (ys.map (Value.int .i64)).length)) = ys.map (Value.int .i64) := by
        rw [List.take_zero, List.nil_append, List.drop_of_length_le (by simp [hy, hz]), List.append_nil]
      rw [e] at this
      refine ⟨_, ?_, setRow_heap w r _ _ T_int _ hb, setRow_chg _ _ _, by simp⟩
      have e2 : (ys.map (Value.int .i64)).length = n := by simp [hy]
      rw [e2] at this
      exact this
theorem impl_moneyCopy_c {w : World} {xs : List Value} {dx : List D0} (h : Reps w xs dx) (hc : dx.map D0.code = [.str, .bool, .ints]) (hb : bulks dx ≤ 100000000) :
    Ret P n_impl_moneyCopy [.agg ⟨xs⟩] w fun v w' => ∃ vs' f, v = .agg ⟨vs'⟩ ∧ Owns w' w.heap.size vs' dx f ∧ f.Nodup ∧ Ext w w' := by
  obtain ⟨t0, a0, a1p, a1n, a1c, a1z, rfl, rfl, ha⟩ := open_Money h hc
  have l1 := ha.1
  simp only [bulks, D0.bulk, List.map_cons, List.map_nil, List.sum_cons, List.sum_nil] at hb
  refine impl_moneyCopy_ret ?_
  unfold impl_moneyCopy
  intro r w1 hn1 r1 w2 hn2
  have k0 := hn1.blk.ext hn2.ext
  have e2 := hn2.r_eq; have s1 := hn1.size; have s2 := hn2.size
  refine ⟨_, _, _, k0.loadAt 2 rfl (by kernel_rfl) rfl, ⟨by omega, by omega, by omega⟩, ?_⟩
  intro r2 w3 hn3
  have e3 := hn3.r_eq; have s3 := hn3.size
  have hblk := hn3.blk
  rw [zeroRow_int, Nat.mul_one, show (List.replicate a1n (Value.int .i64 0)) = (List.replicate a1n (0 : Int)).map (Value.int .i64) by simp] at hblk
  obtain ⟨w4, cp, hb4, ch4, sz4⟩ := copyI hblk (by simp) (ha.ext ((hn1.ext.trans hn2.ext).trans hn3.ext))
  have D := Ext.drew w4
  have Y := ((hn1.ext.trans hn2.ext).trans hn3.ext).chg ch4 (by simp; omega)
  have k0 := (k0.ext hn3.ext).chg ch4 (by have := hn1.r_eq; simp; omega)
  have k1 := (hn2.blk.ext hn3.ext).chg ch4 (by simp; omega)
  have lD := D.le
  refine ⟨_, _, _, (hn1.blk.ext (hn2.ext.trans hn3.ext)).loadAt 2 rfl (by kernel_rfl) rfl, _, w4, cp, _, fun W hW => (k0.ext (D.trans hW)).loadAt 0 rfl (by kernel_rfl) rfl, _, fun W hW => (k0.ext (D.trans hW)).loadAt 1 rfl (by kernel_rfl) rfl, ⟨by omega, by omega⟩, ⟨by omega, by omega⟩, ?_⟩
  obtain ⟨w7, st, hb7, ch, sz⟩ := (k1.ext D).storeA0 (P := P) (t := T_impl_Money) (xs := [.string t0, .bool a0, .slice (some ⟨r2, 0, none⟩) a1n a1n]) (by kernel_rfl) rfl (by simp [Value.oneCell'])
  have q1 : Own w7 w.heap.size T_int 1 (some ⟨r2, 0, none⟩) a1n a1n (a1z.map (Value.int .i64)) := Own.of_blk ((hb4.ext D).chg ch (by simp; omega)) (by omega) (by simp [l1]) (by simp only [maxLen]; omega)
  have es : sub (some ⟨r2, 0, none⟩) 0 a1n 1 = some ⟨r2, 0, none⟩ := by simp [sub, Addr.add]
  rw [es, Nat.sub_zero]
  exact ⟨w7, st, _, _, _, _, _, hb7.loadA0 (by kernel_rfl), _, _, rfl, Owns.append (Owns.str _ _ t0) (Owns.append (Owns.bool _ _ a0) (Owns.ints q1)), by simp, (Y.trans D).chg ch (by simp; omega)⟩
end Go.Proofs.YtfemmmbkhhemaaaGreatDoor
