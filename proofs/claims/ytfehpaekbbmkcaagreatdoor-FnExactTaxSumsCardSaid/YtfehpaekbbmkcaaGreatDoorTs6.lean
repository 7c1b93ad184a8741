/-
  Parts of the proof of taxSums_holds: CDecLowO, Tab, CCurr, CWord, CDebtsOk, DMark, DMarkS, CBookSum, CUndo, CRestsNeg, CRatC, CRoundA, CRoundB, CRatM, CTaxRateOk, CRatMoney, CPercentL, CTaxOn, CTaxL, CSwap, SxFlS, CTaxSI.
  Conditions: none.
-/
import Derived.Laws.BytesArg
import Derived.Test.YtfehpaekbbmkcaaGreatDoorTs5

namespace Go.Proofs.YtfehpaekbbmkcaaGreatDoor
open Go Go.Proofs.YtfehpaekbbmkcaaGreatDoor.Sx
set_option linter.unusedVariables false
set_option linter.unusedSimpArgs false
def dsn (b : Bool) (m : Nat) (s : Int) : List D0 := [.bool b, .ints (digs m), .int s]
theorem isn_ok {b : Bool} {m : Nat} (hb : b = true → m ≠ 0) (h : (digs m).length ≤ 50) : intOk [.bool b, .ints (digs m)] = true := by
  simp only [intOk, natOk_spec.2 ⟨digs_canon m, h⟩, Bool.true_and]
  cases b with
  | false => simp
  | true =>
    have := digs_pos_len.2 (hb rfl)
    simp only [Bool.not_true, Bool.false_or]
    cases hd : digs m with
    | nil => rw [hd] at this; simp at this
    | cons _ _ => simp
theorem dsn_ok {b : Bool} {m : Nat} {s : Int} (hb : b = true → m ≠ 0) (h : (digs m).length ≤ 6) (hs : 0 ≤ s ∧ s ≤ 30) : decOk (dsn b m s) = true := by
  simp only [decOk, dsn, isn_ok hb (show (digs m).length ≤ 50 by omega), decide_eq_true h, decide_eq_true hs, Bool.and_self]
theorem sgn_digs {b : Bool} {m : Nat} (hb : b = true → m ≠ 0) : (b && !(digs m).isEmpty) = b := by
  cases b with
  | false => rfl
  | true =>
    have := digs_pos_len.2 (hb rfl)
    cases hd : digs m with
    | nil => rw [hd] at this; simp at this
    | cons _ _ => rfl
theorem imul_one {b : Bool} {m : Nat} (hb : b = true → m ≠ 0) (hm : (digs m).length ≤ 50) : imul [.bool b, .ints (digs m)] [.bool false, .ints (digs 1)] = [.bool b, .ints (digs m)] := by
  have e : ([.bool b, .ints (digs m)] : List D0) = enc (if b then -(m : Int) else (m : Int)) := by
    rw [← mkS_of (b := b) (m := m) (z := if b then -(m : Int) else (m : Int)) (by cases b <;> simp) (fun h => by
      cases b with
      | false => simp
      | true => simp; have := hb rfl; omega)]
    unfold mkS
    rw [sgn_digs hb]
  have e1 : ([.bool false, .ints (digs 1)] : List D0) = enc 1 := by rw [show (1 : Int) = ((1 : Nat) : Int) from rfl, enc_nat]
  rw [imul, isn_ok hb hm, inn_ok (show (digs 1).length ≤ 50 by rw [digs_one]; decide), e, e1, ival_enc, ival_enc, Int.mul_one, icap_fit (by cases b <;> simp <;> omega)]
  rfl
theorem impl_decOf_g {w : World} {B : Nat} {xs : List Value} {m : Nat} {b : Bool} {s : Int} {f : List Nat} (h : Owns w B xs [.bool b, .ints (digs m)] f) (hb : b = true → m ≠ 0) (hm : (digs m).length ≤ 6) (hs : 0 ≤ s ∧ s ≤ 30) :
    Ret P n_impl_decOf [.agg ⟨xs⟩, .int .i64 s] w fun v w' => ∃ vs, v = .tuple #[.agg ⟨vs⟩, .bool true] ∧ Owns w' B vs (dsn b m s) f ∧ Ext w w' := by
  have ho := h
  obtain ⟨a0, ap, an, ac, az, rfl, hd, ha⟩ := open_Signed h.reps rfl
  simp only [List.cons.injEq, D0.bool.injEq, D0.ints.injEq, and_true] at hd
  obtain ⟨rfl, rfl⟩ := hd
  refine impl_decOf_ret ?_
  unfold impl_decOf
  intro r w1 hn1 r1 w2 hn2
  have k1 := hn1.blk.ext hn2.ext
  refine ⟨_, _, _, _, k1.loadA0 (by kernel_rfl), ?_⟩
  intro r2 w3 hn3
  have e1 := hn1.r_eq; have e2 := hn2.r_eq; have z1 := hn1.size
  obtain ⟨w4, st4, hb4, y4⟩ := hn3.fill (P := P) (t := T_impl_Dec) (xs := [.bool b, .slice ap an ac, .int .i64 s]) (by simp [Value.oneCell']) (by kernel_rfl) rfl
  have X := (hn1.ext.trans hn2.ext).trans y4
  refine ⟨w4, st4, _, _, _, _, _, hb4.loadA0 (by kernel_rfl), ?_⟩
  have hm' : Reps w4 [.bool b, .slice ap an ac, .int .i64 s] (dsn b m s) := ⟨rfl, ⟨_, _, _, rfl, ha.ext X⟩, rfl, trivial⟩
  refine Ret.at (impl_DecOk_c hm' rfl) ?_
  rintro v w5 ⟨hv, y5⟩
  subst hv
  rw [dsn_ok hb hm hs]
  obtain ⟨w6, st6, hb6, ch, sz⟩ := ((hn2.blk.ext y4).ext y5).storeA0 (P := P) (t := T_impl_Dec) (xs := [.bool b, .slice ap an ac, .int .i64 s]) (by kernel_rfl) rfl (by simp [Value.oneCell'])
  have Z : Ext w w6 := (X.trans y5).chg ch (by simp; omega)
  have ho6 : Owns w6 B [.bool b, .slice ap an ac, .int .i64 s] (dsn b m s) f := by
    have := Owns.append (ho.ext Z) (Owns.int w6 B s)
    rwa [List.append_nil] at this
  exact ⟨_, rfl, ifT ⟨_, _, _, _, _, (hb4.ext y5).loadA0 (by kernel_rfl), w6, st6, _, _, _, _, _, hb6.loadA0 (by kernel_rfl), [.bool b, .slice ap an ac, .int .i64 s], rfl, ho6, Z⟩⟩
theorem spec_l07Dec_g {w : World} {B : Nat} {xs : List Value} {m : Nat} {b : Bool} {s : Int} {f : List Nat} (h : Owns w B xs [.bool b, .ints (digs m)] f) (hb : b = true → m ≠ 0) (hm : (digs m).length ≤ 6) (hs : 0 ≤ s ∧ s ≤ 30) :
    Ret P n_spec_l07Dec [.agg ⟨xs⟩, .int .i64 s] w fun v w' => ∃ vs, v = .tuple #[.agg ⟨vs⟩, .bool true] ∧ Owns w' B vs (dsn b m s) f ∧ Ext w w' := by
  have ho := h
  obtain ⟨a0, ap, an, ac, az, rfl, hd, ha⟩ := open_Signed h.reps rfl
  simp only [List.cons.injEq, D0.bool.injEq, D0.ints.injEq, and_true] at hd
  obtain ⟨rfl, rfl⟩ := hd
  refine spec_l07Dec_ret ?_
  unfold spec_l07Dec
  intro r w1 hn1 r1 w2 hn2
  have k1 := hn1.blk.ext hn2.ext
  refine ⟨_, _, _, _, k1.loadA0 (by kernel_rfl), ?_⟩
  intro r2 w3 hn3
  have e1 := hn1.r_eq; have e2 := hn2.r_eq; have z1 := hn1.size
  obtain ⟨w4, st4, hb4, y4⟩ := hn3.fill (P := P) (t := T_impl_Dec) (xs := [.bool b, .slice ap an ac, .int .i64 s]) (by simp [Value.oneCell']) (by kernel_rfl) rfl
  have X := (hn1.ext.trans hn2.ext).trans y4
  refine ⟨w4, st4, _, _, _, _, _, hb4.loadA0 (by kernel_rfl), ?_⟩
  have hm' : Reps w4 [.bool b, .slice ap an ac, .int .i64 s] (dsn b m s) := ⟨rfl, ⟨_, _, _, rfl, ha.ext X⟩, rfl, trivial⟩
  refine Ret.at (spec_DecOk_c hm' rfl) ?_
  rintro v w5 ⟨hv, y5⟩
  subst hv
  rw [dsn_ok hb hm hs]
  obtain ⟨w6, st6, hb6, ch, sz⟩ := ((hn2.blk.ext y4).ext y5).storeA0 (P := P) (t := T_impl_Dec) (xs := [.bool b, .slice ap an ac, .int .i64 s]) (by kernel_rfl) rfl (by simp [Value.oneCell'])
  have Z : Ext w w6 := (X.trans y5).chg ch (by simp; omega)
  have ho6 : Owns w6 B [.bool b, .slice ap an ac, .int .i64 s] (dsn b m s) f := by
    have := Owns.append (ho.ext Z) (Owns.int w6 B s)
    rwa [List.append_nil] at this
  exact ⟨_, rfl, ifN (fun hh => absurd hh (by simp)) (fun _ => ⟨_, _, _, _, _, (hb4.ext y5).loadA0 (by kernel_rfl), w6, st6, _, _, _, _, _, hb6.loadA0 (by kernel_rfl), [.bool b, .slice ap an ac, .int .i64 s], rfl, ho6, Z⟩)⟩
theorem spec_NatDiv_o {w : World} {p q : Option Addr} {n c n2 c2 x y : Nat} (h : IntsR w p n c (digs x)) (g : IntsR w q n2 c2 (digs y)) (hx : n ≤ 50) (hy : n2 ≤ 50) (hy0 : 0 < y) :
    Ret P n_spec_NatDiv [.slice p n c, .slice q n2 c2] w fun v w' => ∃ p1 m1 c1 p2 m2 c2, v = .tuple #[.slice p1 m1 c1, .slice p2 m2 c2] ∧ Own w' w.heap.size T_int 1 p1 m1 c1 ((digs (x / y)).map (Value.int .i64)) ∧ IntsR w' p2 m2 c2 (digs (x % y)) ∧ Ext w w' := by
  have l1 := h.1; have l2 := g.1
  have l3 : 0 < (digs y).length := digs_pos_len.2 (by omega)
  refine spec_NatDiv_ret ?_
  unfold spec_NatDiv
  refine Ret.at (spec_NatOk_c h) ?_
  rintro v w1 ⟨hv, y1⟩
  subst hv
  rw [natOk_spec.2 ⟨digs_canon x, by omega⟩]
  refine ⟨_, rfl, ifN (fun hh => absurd hh (by simp)) (fun _ => ?_)⟩
  refine Ret.at (spec_NatOk_c (g.ext y1)) ?_
  rintro v w2 ⟨hv, y2⟩
  subst hv
  rw [natOk_spec.2 ⟨digs_canon y, by omega⟩]
  refine ⟨_, rfl, ifN (fun hh => absurd hh (by simp)) (fun _ => ifD (fun hh => absurd hh (by omega)) (fun _ => ?_))⟩
  have X := y1.trans y2
  refine Ret.at (spec_l03Div_o (h.ext X) (g.ext X) (digs_limbs x) (digs_canon y) (by omega) (by omega) (by omega)) ?_
  rintro v w3 ⟨p1, m1, c1, p2, m2, c2, hv, i1, i2, y3⟩
  subst hv
  rw [val_div] at i1
  rw [val_mod] at i2
  exact ⟨_, _, _, _, _, _, rfl, _, _, _, _, _, _, rfl, i1.mono X.le, i2, X.trans y3⟩
theorem spec_NatCut_o {w : World} {p : Option Addr} {n c x k : Nat} (h : IntsR w p n c (digs x)) (hx : n ≤ 50) (hk : k ≤ 30) :
    Ret P n_spec_NatCut [.slice p n c, .int .i64 (k : Int)] w fun v w' => ∃ p1 m1 c1 p2 m2 c2, v = .tuple #[.slice p1 m1 c1, .slice p2 m2 c2] ∧ Own w' w.heap.size T_int 1 p1 m1 c1 ((digs (x / 10 ^ k)).map (Value.int .i64)) ∧ IntsR w' p2 m2 c2 (digs (x % 10 ^ k)) ∧ Ext w w' := by
  refine spec_NatCut_ret ?_
  unfold spec_NatCut
  refine Ret.at (spec_l01In_c (k : Int) 0 440 w) ?_
  rintro v w1 ⟨hv, hw⟩
  subst hv; subst hw
  rw [decide_eq_true (show (0 : Int) ≤ (k : Int) ∧ (k : Int) ≤ 440 by omega)]
  refine ⟨_, rfl, ifN (fun hh => absurd hh (by simp)) (fun _ => ?_)⟩
  refine Ret.at (spec_NatTen_c (k := (k : Int)) (by omega) (by omega)) ?_
  rintro v w2 ⟨p2, n2, c2, hv, ho, y2⟩
  subst hv
  rw [Int.toNat_natCast] at ho
  have hl := ho.ints.1
  have ht := ten_len hk
  refine ⟨_, _, _, rfl, ?_⟩
  refine Ret.at (spec_NatDiv_o (h.ext y2) ho.ints hx (by omega) (Nat.pow_pos (by decide))) ?_
  rintro v w3 ⟨p1, m1, c1, p3, m3, c3, hv, i1, i2, y3⟩
  subst hv
  exact ⟨_, _, _, _, _, _, rfl, _, _, _, _, _, _, rfl, i1.mono y2.le, i2, y2.trans y3⟩
theorem impl_DecAt_o {w : World} {xs : List Value} {b : Bool} {m s t : Nat} (h : Reps w xs (dsn b m s)) (hb : b = true → m ≠ 0) (hm : (digs m).length ≤ 6) (hs : s ≤ 30) (ht : t ≤ s) :
    Ret P n_impl_DecAt [.agg ⟨xs⟩, .int .i64 (t : Int)] w fun v w' => ∃ vs d f, v = .tuple #[.agg ⟨vs⟩, .bool (decide (m % 10 ^ (s - t) = 0))] ∧ Owns w' w.heap.size vs d f ∧ f.Nodup ∧ d.map D0.code = [.bool, .ints, .int] ∧ (m % 10 ^ (s - t) = 0 → d = dsn b (m / 10 ^ (s - t)) t) ∧ Ext w w' := by
  have hr := h
  obtain ⟨a0, ap, an, ac, az, a2, rfl, hd, ha⟩ := open_Dec h rfl
  simp only [dsn, List.cons.injEq, D0.bool.injEq, D0.ints.injEq, D0.int.injEq, and_true] at hd
  obtain ⟨rfl, rfl, rfl⟩ := hd
  have hla := ha.1
  refine impl_DecAt_ret ?_
  unfold impl_DecAt
  intro r w1 hn1 r1 w2 hn2
  have e1 := hn1.r_eq; have e2 := hn2.r_eq; have z1 := hn1.size; have z2 := hn2.size
  have X := hn1.ext.trans hn2.ext
  have q0 := hn1.blk.ext hn2.ext
  refine ⟨_, _, _, _, _, q0.loadA0 (by kernel_rfl), ?_⟩
  refine Ret.at (impl_DecOk_c (hr.ext X) rfl) ?_
  rintro v w3 ⟨hv, y3⟩
  subst hv
  rw [dsn_ok hb hm ⟨by omega, by omega⟩]
  refine ⟨_, rfl, ifN (fun hh => absurd hh (by simp)) (fun _ => ?_)⟩
  refine Ret.at (impl_isScale_c (t : Int) _) ?_
  rintro v w4 ⟨hv, hw⟩
  subst hv; subst hw
  rw [decide_eq_true (show (0 : Int) ≤ (t : Int) ∧ (t : Int) ≤ 30 by omega)]
  refine ⟨_, rfl, ifN (fun hh => absurd hh (by simp)) (fun _ => ?_)⟩
  unfold impl_DecAt_j0
  have q0 := q0.ext y3; have q1 := hn2.blk.ext y3
  have X3 := X.trans y3
  have l3 := y3.le
  refine ⟨_, q0.loadAt 2 rfl (by kernel_rfl) rfl, ifD (fun hle => ?_) (fun hgt => ?_)⟩
  · have hst : t = s := by omega
    subst hst
    have D := Ext.drew w4
    have X4 := X3.trans D
    have lD := D.le
    have k0 := q0.ext D; have k1 := q1.ext D
    refine Ret.at (R := fun v w' => ∃ r, v = .func (.func n_impl_scaled_1) ⟨[]⟩ ⟨[.pointer (some ⟨r, 0, none⟩)]⟩ ∧ Blk w' r T_int [.int .i64 (t : Int)] ∧ Ext w4.drew w') ?_ ?_
    · refine impl_scaled_ret ?_
      unfold impl_scaled
      intro r5 w5 hn5
      exact ⟨r5, rfl, hn5.blk, hn5.ext⟩
    rintro v w5 ⟨r5, hv, hb5, y5⟩
    subst hv
    refine ⟨_, rfl, y5, _, _, _, _, _, fun W hW => (k0.ext hW).loadA0 (by kernel_rfl), _, _, _, rfl, by kernel_rfl, ?_⟩
    refine Calls.mono (impl_scaled_1_c (hr.ext (X4.trans y5)) (digs_limbs m) (by omega) (by omega) (by omega) (by omega) hb5) ?_
    rintro e w6 ⟨v, he, vs1, f1, hv, ho1, nd1, y6⟩
    subst hv
    have e0 : mkS b (digs (val (digs m) * 10 ^ ((t : Int) - (t : Int)).toNat).toNat) = [.bool b, .ints (digs m)] := by
      rw [Int.sub_self, Int.toNat_zero, Int.pow_zero, Int.mul_one, val_digs, Int.toNat_natCast]; unfold mkS; rw [sgn_digs hb]
    rw [e0] at ho1
    obtain ⟨g0, gp, gn, gc, gz, rfl, _, _⟩ := open_Signed ho1.reps rfl
    refine ⟨_, _, _, _, he, ?_⟩
    refine Ret.at (impl_decOf_g ho1 hb hm ⟨by omega, by omega⟩) ?_
    rintro v w7 ⟨vs7, hv, ho7, y7⟩
    subst hv
    have Y := (y5.trans y6).trans y7
    have l5 := y5.le
    obtain ⟨d0, dp, dn, dc, dz, ds, rfl, _, _⟩ := open_Dec ho7.reps rfl
    obtain ⟨w8, st8, hb8, ch, sz⟩ := (k1.ext Y).storeA0 (P := P) (t := T_impl_Dec) (xs := [.bool d0, .slice dp dn dc, .int .i64 ds]) (by kernel_rfl) rfl (by simp [Value.oneCell'])
    have Z : Ext w w8 := (X4.trans Y).chg ch (by simp; omega)
    refine ⟨_, _, _, _, _, _, rfl, w8, st8, _, _, _, _, _, hb8.loadA0 (by kernel_rfl), [.bool d0, .slice dp dn dc, .int .i64 ds], dsn b m t, f1, ?_, (ho7.chg1 ch (by omega)).mono (by omega), nd1, rfl, fun _ => ?_, Z⟩
    · rw [Nat.sub_self, Nat.pow_zero, Nat.mod_one]; rfl
    · rw [Nat.sub_self, Nat.pow_zero, Nat.div_one]
  · have hlt : t < s := by omega
    have ek : ((s : Int) - (t : Int)).toNat = s - t := by omega
    have eks : ((s : Int) - (t : Int)) = ((s - t : Nat) : Int) := by omega
    have D := Ext.drew w4
    have k0 := q0.ext D
    refine ⟨_, _, _, fun W hW => (k0.ext hW).loadAt 1 rfl (by kernel_rfl) rfl, _, fun W hW => (k0.ext hW).loadAt 2 rfl (by kernel_rfl) rfl, exW ⟨by omega, by omega⟩ ?_⟩
    refine Ret.at (impl_natTen_c (k := (s : Int) - (t : Int)) (by omega) (by omega)) ?_
    rintro v w5 ⟨p5, n5, c5, hv, ho5, y5⟩
    subst hv
    rw [ek] at ho5
    have hl5 := ho5.ints.1
    have ht5 := ten_len (k := s - t) (by omega)
    have hp5 : 0 < (digs (10 ^ (s - t))).length := digs_pos_len.2 (Nat.ne_of_gt (Nat.pow_pos (by decide)))
    refine ⟨_, _, _, rfl, y5, ?_⟩
    refine Ret.at (impl_natDiv_c (ha.ext ((X3.trans D).trans y5)) ho5.ints (digs_canon m) (digs_canon _) (by omega) (by omega) (by omega)) ?_
    rintro v w6 ⟨p1, n1, c1, p2, n2, c2, hv, hoq, hor, _, y6⟩
    subst hv
    rw [val_div] at hoq
    rw [val_mod] at hor
    have Y := (D.trans y5).trans y6
    have i1 := hoq.ints; have i2 := hor.ints
    have hmq : m % 10 ^ (s - t) = 0 → b = true → m / 10 ^ (s - t) ≠ 0 := fun h0 hb1 h1 => hb hb1 (by have := Nat.div_add_mod m (10 ^ (s - t)); rw [h0, h1] at this; simpa using this.symm)
    have hml : (digs (m / 10 ^ (s - t))).length ≤ 6 := digs_div_len hm
    refine ⟨_, _, _, _, _, _, rfl, ifD (fun hrem => ?_) (fun hno => ?_)⟩
    · have hne : m % 10 ^ (s - t) ≠ 0 := digs_pos_len.1 (by have := i2.1; omega)
      obtain ⟨w8, st8, hb8, ch, sz⟩ := (q1.ext Y).storeA0 (P := P) (t := T_impl_Dec) (xs := [.bool false, .slice none 0 0, .int .i64 0]) (by kernel_rfl) rfl (by simp [Value.oneCell'])
      have Z : Ext w w8 := (X3.trans Y).chg ch (by simp; omega)
      exact ⟨w8, st8, _, _, _, _, _, hb8.loadA0 (by kernel_rfl), [.bool false, .slice none 0 0, .int .i64 0], [.bool false, .ints [], .int 0], [], by rw [decide_eq_false hne], Owns.append (Owns.bool _ _ false) (Owns.append (Owns.ints (zs := []) (Own.nil _ _ _ _)) (Owns.int _ _ 0)), List.nodup_nil, rfl, fun hh => absurd hh hne, Z⟩
    · have heq : m % 10 ^ (s - t) = 0 := Decidable.byContradiction fun hh => by
        have := digs_pos_len.2 hh
        have := i2.1
        omega
      refine ⟨_, (q0.ext Y).loadAt 0 rfl (by kernel_rfl) rfl, ?_⟩
      refine Ret.at (impl_signed_c (neg := b) i1.1) ?_
      rintro v w9 ⟨hv, y9⟩
      subst hv
      have Y5 := Y.trans y9
      refine ⟨_, _, _, _, rfl, ?_⟩
      have hoq2 : Owns w9 w4.heap.size [.bool (b && !(digs (m / 10 ^ (s - t))).isEmpty), .slice p1 n1 c1] [.bool b, .ints (digs (m / 10 ^ (s - t)))] (p1.map (·.block)).toList := by
        rw [sgn_digs (hmq heq)]
        exact (Owns.append (Owns.bool _ _ b) (Owns.ints (hoq.mono (by have := D.le; have := y5.le; omega)))).ext y9
      refine Ret.at (impl_decOf_g hoq2 (hmq heq) hml ⟨by omega, by omega⟩) ?_
      rintro v w7 ⟨vs7, hv, ho7, y7⟩
      subst hv
      obtain ⟨d0, dp, dn, dc, dz, ds, rfl, _, _⟩ := open_Dec ho7.reps rfl
      have Y7 := Y5.trans y7
      obtain ⟨w8, st8, hb8, ch, sz⟩ := (q1.ext Y7).storeA0 (P := P) (t := T_impl_Dec) (xs := [.bool d0, .slice dp dn dc, .int .i64 ds]) (by kernel_rfl) rfl (by simp [Value.oneCell'])
      have Z : Ext w w8 := (X3.trans Y7).chg ch (by simp; omega)
      exact ⟨_, _, _, _, _, _, rfl, w8, st8, _, _, _, _, _, hb8.loadA0 (by kernel_rfl), [.bool d0, .slice dp dn dc, .int .i64 ds], dsn b (m / 10 ^ (s - t)) t, _, by rw [decide_eq_true heq], (ho7.chg1 ch (by omega)).mono (by omega), by cases p1 <;> simp, rfl, fun _ => rfl, Z⟩
theorem spec_DecAt_o {w : World} {xs : List Value} {b : Bool} {m s t : Nat} (h : Reps w xs (dsn b m s)) (hb : b = true → m ≠ 0) (hm : (digs m).length ≤ 6) (hs : s ≤ 30) (ht : t ≤ s) :
    Ret P n_spec_DecAt [.agg ⟨xs⟩, .int .i64 (t : Int)] w fun v w' => ∃ vs d f, v = .tuple #[.agg ⟨vs⟩, .bool (decide (m % 10 ^ (s - t) = 0))] ∧ Owns w' w.heap.size vs d f ∧ f.Nodup ∧ d.map D0.code = [.bool, .ints, .int] ∧ (m % 10 ^ (s - t) = 0 → d = dsn b (m / 10 ^ (s - t)) t) ∧ Ext w w' := by
  have hr := h
  obtain ⟨a0, ap, an, ac, az, a2, rfl, hd, ha⟩ := open_Dec h rfl
  simp only [dsn, List.cons.injEq, D0.bool.injEq, D0.ints.injEq, D0.int.injEq, and_true] at hd
  obtain ⟨rfl, rfl, rfl⟩ := hd
  have hla := ha.1
  refine spec_DecAt_ret ?_
  unfold spec_DecAt
  intro r w1 hn1 r1 w2 hn2
  have e1 := hn1.r_eq; have e2 := hn2.r_eq; have z1 := hn1.size; have z2 := hn2.size
  have X := hn1.ext.trans hn2.ext
  have q0 := hn1.blk.ext hn2.ext
  refine ⟨_, _, _, _, _, q0.loadA0 (by kernel_rfl), ?_⟩
  refine Ret.at (spec_DecOk_c (hr.ext X) rfl) ?_
  rintro v w3 ⟨hv, y3⟩
  subst hv
  rw [dsn_ok hb hm ⟨by omega, by omega⟩]
  refine ⟨_, rfl, ifN (fun hh => absurd hh (by simp)) (fun _ => ?_)⟩
  refine Ret.at (spec_l01In_c (t : Int) 0 30 _) ?_
  rintro v w4 ⟨hv, hw⟩
  subst hv; subst hw
  rw [decide_eq_true (show (0 : Int) ≤ (t : Int) ∧ (t : Int) ≤ 30 by omega)]
  refine ⟨_, rfl, ifN (fun hh => absurd hh (by simp)) (fun _ => ?_)⟩
  unfold spec_DecAt_j0
  have q0 := q0.ext y3; have q1 := hn2.blk.ext y3
  have X3 := X.trans y3
  have l3 := y3.le
  refine ⟨_, q0.loadAt 2 rfl (by kernel_rfl) rfl, ifD (fun hle => ?_) (fun hgt => ?_)⟩
  · have hst : t = s := by omega
    subst hst
    have D := Ext.drew w4
    have X4 := X3.trans D
    have lD := D.le
    have k0 := q0.ext D; have k1 := q1.ext D
    refine ⟨_, _, _, _, fun W hW => (k0.ext hW).loadAAt 0 [.bool b, .slice ap an ac] rfl (by kernel_rfl) rfl, _, fun W hW => (k0.ext hW).loadAt 2 rfl (by kernel_rfl) rfl, exW ⟨by omega, by omega⟩ ?_⟩
    refine Ret.at (spec_l07Ten_c (k := (t : Int) - (t : Int)) (by omega) (by omega)) ?_
    rintro v w5 ⟨vs5, f5, hv, ho5, _, y5⟩
    subst hv
    have e0 : enc ((10 ^ ((t : Int) - (t : Int)).toNat : Nat) : Int) = [.bool false, .ints (digs 1)] := by
      rw [Int.sub_self, Int.toNat_zero, Nat.pow_zero, enc_nat]
    rw [e0] at ho5
    obtain ⟨g0, gp, gn, gc, gz, rfl, _, _⟩ := open_Signed ho5.reps rfl
    refine ⟨_, _, _, _, rfl, y5, ?_⟩
    have h1 : Reps w5 [.bool b, .slice ap an ac] [.bool b, .ints (digs m)] := ⟨rfl, ⟨_, _, _, rfl, ha.ext (X4.trans y5)⟩, trivial⟩
    refine Ret.at (spec_IntMul_c h1 ho5.reps rfl rfl) ?_
    rintro v w6 ⟨vs6, f1, hv, ho6, nd1, y6⟩
    subst hv
    rw [imul_one hb (by omega)] at ho6
    obtain ⟨g20, g2p, g2n, g2c, g2z, rfl, _, _⟩ := open_Signed ho6.reps rfl
    refine ⟨_, _, _, _, rfl, ?_⟩
    refine Ret.at (spec_l07Dec_g ho6 hb hm ⟨by omega, by omega⟩) ?_
    rintro v w7 ⟨vs7, hv, ho7, y7⟩
    subst hv
    have Y := (y5.trans y6).trans y7
    have l5 := y5.le
    obtain ⟨d0, dp, dn, dc, dz, ds, rfl, _, _⟩ := open_Dec ho7.reps rfl
    obtain ⟨w8, st8, hb8, ch, sz⟩ := (k1.ext Y).storeA0 (P := P) (t := T_impl_Dec) (xs := [.bool d0, .slice dp dn dc, .int .i64 ds]) (by kernel_rfl) rfl (by simp [Value.oneCell'])
    have Z : Ext w w8 := (X4.trans Y).chg ch (by simp; omega)
    refine ⟨_, _, _, _, _, _, rfl, w8, st8, _, _, _, _, _, hb8.loadA0 (by kernel_rfl), [.bool d0, .slice dp dn dc, .int .i64 ds], dsn b m t, f1, ?_, (ho7.chg1 ch (by omega)).mono (by omega), nd1, rfl, fun _ => ?_, Z⟩
    · rw [Nat.sub_self, Nat.pow_zero, Nat.mod_one]; rfl
    · rw [Nat.sub_self, Nat.pow_zero, Nat.div_one]
  · have hlt : t < s := by omega
    have ek : ((s : Int) - (t : Int)).toNat = s - t := by omega
    have eks : ((s : Int) - (t : Int)) = ((s - t : Nat) : Int) := by omega
    refine ⟨_, _, _, q0.loadAt 1 rfl (by kernel_rfl) rfl, _, q0.loadAt 2 rfl (by kernel_rfl) rfl, exW ⟨by omega, by omega⟩ ?_⟩
    rw [eks]
    refine Ret.at (spec_NatCut_o (ha.ext X3) (by omega) (show s - t ≤ 30 by omega)) ?_
    rintro v w6 ⟨p1, n1, c1, p2, n2, c2, hv, hoq, i2, Y⟩
    subst hv
    have hmq : m % 10 ^ (s - t) = 0 → b = true → m / 10 ^ (s - t) ≠ 0 := fun h0 hb1 h1 => hb hb1 (by have := Nat.div_add_mod m (10 ^ (s - t)); rw [h0, h1] at this; simpa using this.symm)
    have hml : (digs (m / 10 ^ (s - t))).length ≤ 6 := digs_div_len hm
    refine ⟨_, _, _, _, _, _, rfl, ifD (fun hrem => ?_) (fun hno => ?_)⟩
    · have hne : m % 10 ^ (s - t) ≠ 0 := digs_pos_len.1 (by have := i2.1; omega)
      obtain ⟨w8, st8, hb8, ch, sz⟩ := (q1.ext Y).storeA0 (P := P) (t := T_impl_Dec) (xs := [.bool false, .slice none 0 0, .int .i64 0]) (by kernel_rfl) rfl (by simp [Value.oneCell'])
      have Z : Ext w w8 := (X3.trans Y).chg ch (by simp; omega)
      exact ⟨w8, st8, _, _, _, _, _, hb8.loadA0 (by kernel_rfl), [.bool false, .slice none 0 0, .int .i64 0], [.bool false, .ints [], .int 0], [], by rw [decide_eq_false hne], Owns.append (Owns.bool _ _ false) (Owns.append (Owns.ints (zs := []) (Own.nil _ _ _ _)) (Owns.int _ _ 0)), List.nodup_nil, rfl, fun hh => absurd hh hne, Z⟩
    · have heq : m % 10 ^ (s - t) = 0 := Decidable.byContradiction fun hh => by
        have := digs_pos_len.2 hh
        have := i2.1
        omega
      refine ⟨_, (q0.ext Y).loadAt 0 rfl (by kernel_rfl) rfl, ?_⟩
      have Y5 := Y
      have hoq2 : Owns w6 w4.heap.size [.bool b, .slice p1 n1 c1] [.bool b, .ints (digs (m / 10 ^ (s - t)))] (p1.map (·.block)).toList := Owns.append (Owns.bool _ _ b) (Owns.ints hoq)
      refine Ret.at (spec_l07Dec_g hoq2 (hmq heq) hml ⟨by omega, by omega⟩) ?_
      rintro v w7 ⟨vs7, hv, ho7, y7⟩
      subst hv
      obtain ⟨d0, dp, dn, dc, dz, ds, rfl, _, _⟩ := open_Dec ho7.reps rfl
      have Y7 := Y5.trans y7
      obtain ⟨w8, st8, hb8, ch, sz⟩ := (q1.ext Y7).storeA0 (P := P) (t := T_impl_Dec) (xs := [.bool d0, .slice dp dn dc, .int .i64 ds]) (by kernel_rfl) rfl (by simp [Value.oneCell'])
      have Z : Ext w w8 := (X3.trans Y7).chg ch (by simp; omega)
      exact ⟨_, _, _, _, _, _, rfl, w8, st8, _, _, _, _, _, hb8.loadA0 (by kernel_rfl), [.bool d0, .slice dp dn dc, .int .i64 ds], dsn b (m / 10 ^ (s - t)) t, _, by rw [decide_eq_true heq], (ho7.chg1 ch (by omega)).mono (by omega), by cases p1 <;> simp, rfl, fun _ => rfl, Z⟩
theorem impl_DecLow_o {w : World} {xs : List Value} {b : Bool} {m s : Nat} (h : Reps w xs (dsn b m s)) (hb : b = true → m ≠ 0) (hm : (digs m).length ≤ 6) (hs : s ≤ 30) :
    Ret P n_impl_DecLow [.agg ⟨xs⟩] w fun v w' => ∃ vs f, v = .agg ⟨vs⟩ ∧ Owns w' w.heap.size vs (dsn b (lowM m s) (lowS m s)) f ∧ f.Nodup ∧ Ext w w' := by
  have hr := h
  obtain ⟨a0, ap, an, ac, az, a2, rfl, hd, ha⟩ := open_Dec h rfl
  simp only [dsn, List.cons.injEq, D0.bool.injEq, D0.ints.injEq, D0.int.injEq, and_true] at hd
  obtain ⟨rfl, rfl, rfl⟩ := hd
  refine impl_DecLow_ret ?_
  unfold impl_DecLow
  intro r w1 hn1 r1 w2 hn2
  have e1 := hn1.r_eq; have e2 := hn2.r_eq; have z1 := hn1.size; have z2 := hn2.size
  have X := hn1.ext.trans hn2.ext
  have q0 := hn1.blk.ext hn2.ext
  refine ⟨fun i wr => ∃ t : Nat, i = t ∧ t ≤ s ∧ (∀ u < t, m % 10 ^ (s - u) ≠ 0) ∧ Ext w2 wr, fun i _ => (31 - i).toNat, ⟨0, rfl, by omega, fun u hu => absurd hu (by omega), Ext.refl _⟩, ?_⟩
  intro junk wr i ⟨t, hi, ht, hmin, hx⟩
  subst hi
  refine ⟨_, (q0.ext hx).loadAt 2 rfl (by kernel_rfl) rfl, ifD (fun _ => ifD (fun _ => ?_) (fun hh => absurd (show (t : Int) ≤ 30 by omega) hh)) (fun hh => absurd (show (t : Int) ≤ (s : Int) by omega) hh)⟩
  unfold impl_DecLow_j0
  refine ⟨_, _, _, _, _, (q0.ext hx).loadA0 (by kernel_rfl), ?_⟩
  refine Ret.at (impl_DecAt_o (hr.ext (X.trans hx)) hb hm hs ht) ?_
  rintro v w4 ⟨vs, d, f, hv, ho, hnd, hcode, hd, y4⟩
  subst hv
  obtain ⟨d0, dp, dn, dc, dz, ds, rfl, hde, hdi⟩ := open_Dec ho.reps hcode
  refine ⟨_, _, _, _, _, _, rfl, ?_⟩
  intro r5 w5 hn5
  obtain ⟨w6, st6, hb6, y6⟩ := hn5.fill (P := P) (t := T_impl_Dec) (xs := [.bool d0, .slice dp dn dc, .int .i64 ds]) (by simp [Value.oneCell']) (by kernel_rfl) rfl
  have Y := (hx.trans y4).trans y6
  refine ⟨w6, st6, fun hyes => ?_, fun hno => ?_⟩
  · have hyes := of_decide_eq_true hyes
    have hd := hd hyes
    have hlow := lowS_eq ht hyes hmin
    rw [hd] at ho
    obtain ⟨w7, st7, hb7, ch, sz⟩ := (hn2.blk.ext Y).storeA0 (P := P) (t := T_impl_Dec) (xs := [.bool d0, .slice dp dn dc, .int .i64 ds]) (by kernel_rfl) rfl (by simp [Value.oneCell'])
    refine ⟨_, _, _, _, _, hb6.loadA0 (by kernel_rfl), w7, st7, _, _, _, _, _, hb7.loadA0 (by kernel_rfl), [.bool d0, .slice dp dn dc, .int .i64 ds], f, rfl, ?_, hnd, (X.trans Y).chg ch (by simp; omega)⟩
    rw [lowM, hlow]
    have lx := hx.le
    exact ((ho.ext y6).chg1 ch (by omega)).mono (by omega)
  · have hno := of_decide_eq_false hno
    have hts : t < s := by
      rcases Nat.lt_or_ge t s with hh | hh
      · exact hh
      · exfalso
        apply hno
        rw [show s - t = 0 by omega, Nat.pow_zero, Nat.mod_one]
    refine exW ⟨by omega, by omega⟩ ⟨⟨t + 1, by omega, by omega, fun u hu => ?_, Y⟩, ?_⟩
    · rcases Nat.lt_or_ge u t with hh | hh
      · exact hmin u hh
      · rw [show u = t by omega]; exact hno
    · show (31 - ((t : Int) + 1)).toNat < (31 - (t : Int)).toNat
      omega
theorem spec_DecLow_o {w : World} {xs : List Value} {b : Bool} {m s : Nat} (h : Reps w xs (dsn b m s)) (hb : b = true → m ≠ 0) (hm : (digs m).length ≤ 6) (hs : s ≤ 30) :
    Ret P n_spec_DecLow [.agg ⟨xs⟩] w fun v w' => ∃ vs f, v = .agg ⟨vs⟩ ∧ Owns w' w.heap.size vs (dsn b (lowM m s) (lowS m s)) f ∧ f.Nodup ∧ Ext w w' := by
  have hr := h
  obtain ⟨a0, ap, an, ac, az, a2, rfl, hd, ha⟩ := open_Dec h rfl
  simp only [dsn, List.cons.injEq, D0.bool.injEq, D0.ints.injEq, D0.int.injEq, and_true] at hd
  obtain ⟨rfl, rfl, rfl⟩ := hd
  refine spec_DecLow_ret ?_
  unfold spec_DecLow
  intro r w1 hn1 r1 w2 hn2
  have e1 := hn1.r_eq; have e2 := hn2.r_eq; have z1 := hn1.size; have z2 := hn2.size
  have X := hn1.ext.trans hn2.ext
  have q0 := hn1.blk.ext hn2.ext
  refine ⟨fun i wr => ∃ t : Nat, i = t ∧ t ≤ s ∧ (∀ u < t, m % 10 ^ (s - u) ≠ 0) ∧ Ext w2 wr, fun i _ => (31 - i).toNat, ⟨0, rfl, by omega, fun u hu => absurd hu (by omega), Ext.refl _⟩, ?_⟩
  intro junk wr i ⟨t, hi, ht, hmin, hx⟩
  subst hi
  refine ifD (fun _ => ?_) (fun hh => absurd (show (t : Int) ≤ 30 by omega) hh)
  refine ⟨_, _, _, _, _, (q0.ext hx).loadA0 (by kernel_rfl), ?_⟩
  refine Ret.at (spec_DecAt_o (hr.ext (X.trans hx)) hb hm hs ht) ?_
  rintro v w4 ⟨vs, d, f, hv, ho, hnd, hcode, hd, y4⟩
  subst hv
  obtain ⟨d0, dp, dn, dc, dz, ds, rfl, hde, hdi⟩ := open_Dec ho.reps hcode
  refine ⟨_, _, _, _, _, _, rfl, ?_⟩
  intro r5 w5 hn5
  obtain ⟨w6, st6, hb6, y6⟩ := hn5.fill (P := P) (t := T_impl_Dec) (xs := [.bool d0, .slice dp dn dc, .int .i64 ds]) (by simp [Value.oneCell']) (by kernel_rfl) rfl
  have Y := (hx.trans y4).trans y6
  refine ⟨w6, st6, fun hyes => ?_, fun hno => ?_⟩
  · have hyes := of_decide_eq_true hyes
    have hd := hd hyes
    have hlow := lowS_eq ht hyes hmin
    rw [hd] at ho
    obtain ⟨w7, st7, hb7, ch, sz⟩ := (hn2.blk.ext Y).storeA0 (P := P) (t := T_impl_Dec) (xs := [.bool d0, .slice dp dn dc, .int .i64 ds]) (by kernel_rfl) rfl (by simp [Value.oneCell'])
    refine ⟨_, _, _, _, _, hb6.loadA0 (by kernel_rfl), w7, st7, _, _, _, _, _, hb7.loadA0 (by kernel_rfl), [.bool d0, .slice dp dn dc, .int .i64 ds], f, rfl, ?_, hnd, (X.trans Y).chg ch (by simp; omega)⟩
    rw [lowM, hlow]
    have lx := hx.le
    exact ((ho.ext y6).chg1 ch (by omega)).mono (by omega)
  · have hno := of_decide_eq_false hno
    have hts : t < s := by
      rcases Nat.lt_or_ge t s with hh | hh
      · exact hh
      · exfalso
        apply hno
        rw [show s - t = 0 by omega, Nat.pow_zero, Nat.mod_one]
    refine exW ⟨by omega, by omega⟩ ⟨⟨t + 1, by omega, by omega, fun u hu => ?_, Y⟩, ?_⟩
    · rcases Nat.lt_or_ge u t with hh | hh
      · exact hmin u hh
      · rw [show u = t by omega]; exact hno
    · show (31 - ((t : Int) + 1)).toNat < (31 - (t : Int)).toNat
      omega
end Go.Proofs.YtfehpaekbbmkcaaGreatDoor

namespace Go.Proofs.YtfehpaekbbmkcaaGreatDoor
open Go Go.Proofs.YtfehpaekbbmkcaaGreatDoor.Sx
abbrev CurRow := ByteArray × ByteArray × Int × Int
def implTab : List CurRow := [(S [67, 72, 70], S [55, 53, 54], 2, 5), (S [69, 85, 82], S [57, 55, 56], 2, 1), (S [85, 83, 68], S [56, 52, 48], 2, 1), (S [71, 66, 80], S [56, 50, 54], 2, 1), (S [74, 80, 89], S [51, 57, 50], 0, 1), (S [83, 69, 75], S [55, 53, 50], 2, 100), (S [78, 79, 75], S [53, 55, 56], 2, 100), (S [68, 75, 75], S [50, 48, 56], 2, 50), (S [67, 90, 75], S [50, 48, 51], 2, 100), (S [72, 85, 70], S [51, 52, 56], 2, 500), (S [80, 76, 78], S [57, 56, 53], 2, 1), (S [67, 65, 68], S [49, 50, 52], 2, 5), (S [65, 85, 68], S [48, 51, 54], 2, 5), (S [78, 90, 68], S [53, 53, 52], 2, 10), (S [75, 87, 68], S [52, 49, 52], 3, 5), (S [66, 72, 68], S [48, 52, 56], 3, 5), (S [84, 78, 68], S [55, 56, 56], 3, 10), (S [73, 83, 75], S [51, 53, 50], 0, 1), (S [75, 82, 87], S [52, 49, 48], 0, 10), (S [67, 76, 70], S [57, 57, 48], 4, 1)]
def specTab : List CurRow := [(S [65, 85, 68], S [48, 51, 54], 2, 5), (S [66, 72, 68], S [48, 52, 56], 3, 5), (S [67, 65, 68], S [49, 50, 52], 2, 5), (S [67, 72, 70], S [55, 53, 54], 2, 5), (S [67, 76, 70], S [57, 57, 48], 4, 1), (S [67, 90, 75], S [50, 48, 51], 2, 100), (S [68, 75, 75], S [50, 48, 56], 2, 50), (S [69, 85, 82], S [57, 55, 56], 2, 1), (S [71, 66, 80], S [56, 50, 54], 2, 1), (S [72, 85, 70], S [51, 52, 56], 2, 500), (S [73, 83, 75], S [51, 53, 50], 0, 1), (S [74, 80, 89], S [51, 57, 50], 0, 1), (S [75, 82, 87], S [52, 49, 48], 0, 10), (S [75, 87, 68], S [52, 49, 52], 3, 5), (S [78, 79, 75], S [53, 55, 56], 2, 100), (S [78, 90, 68], S [53, 53, 52], 2, 10), (S [80, 76, 78], S [57, 56, 53], 2, 1), (S [83, 69, 75], S [55, 53, 50], 2, 100), (S [84, 78, 68], S [55, 56, 56], 3, 10), (S [85, 83, 68], S [56, 52, 48], 2, 1)]
theorem und_T_impl_currency : ∃ fs, Tryz.prog.underlying T_impl_currency = some (.struct fs) := ⟨_, Tryz.underlying210⟩
theorem und_T_20_impl_currency : Tryz.prog.underlying T_20_impl_currency = some (.array 20 T_impl_currency) := Tryz.underlying215
theorem cur_fields : ∃ fs : Array Field, Tryz.prog.underlying T_impl_currency = some (.struct fs) ∧ fs.size = 4 ∧ (∃ f, fs[0]? = some f ∧ f.type = T_string ∧ f.offset = 0) ∧ (∃ f, fs[1]? = some f ∧ f.type = T_string ∧ f.offset = 1) ∧ (∃ f, fs[2]? = some f ∧ f.type = T_int ∧ f.offset = 2) ∧ (∃ f, fs[3]? = some f ∧ f.type = T_int ∧ f.offset = 3) :=
  ⟨_, Tryz.underlying210, rfl, ⟨_, rfl, rfl, rfl⟩, ⟨_, rfl, rfl, rfl⟩, ⟨_, rfl, rfl, rfl⟩, ⟨_, rfl, rfl, rfl⟩⟩
end Go.Proofs.YtfehpaekbbmkcaaGreatDoor

namespace Go.Proofs.YtfehpaekbbmkcaaGreatDoor
open Go Go.Proofs.YtfehpaekbbmkcaaGreatDoor.Sx
set_option linter.unusedVariables false
set_option linter.unusedSimpArgs false
def curCells (r : CurRow) : List Value := [.string r.1, .string r.2.1, .int .i64 r.2.2.1, .int .i64 r.2.2.2]
def curZero : CurRow := (ByteArray.empty, ByteArray.empty, 0, 0)
def curFind : List CurRow → ByteArray → CurRow
  | [], _ => curZero
  | r :: l, c => if r.1 = c then r else curFind l c
def curIn (l : List CurRow) (c : ByteArray) : Bool := l.any fun r => decide (r.1 = c)
def curKnown (c : ByteArray) : Bool := curIn implTab c
def Tab (w : World) : Prop := Seg w 0 0 (implTab.flatMap curCells)
theorem Tab.ext {w w' : World} (h : Tab w) (he : Ext w w') : Tab w' := Seg.ext h he
theorem curIn_drop {l : List CurRow} {c : ByteArray} {j : Nat} (hj : j < l.length) : curIn (l.drop j) c = (decide ((l[j]'hj).1 = c) || curIn (l.drop (j + 1)) c) := by
  rw [List.drop_eq_getElem_cons hj, curIn, List.any_cons]; rfl
theorem curFind_drop {l : List CurRow} {c : ByteArray} {j : Nat} (hj : j < l.length) : curFind (l.drop j) c = if (l[j]'hj).1 = c then l[j]'hj else curFind (l.drop (j + 1)) c := by
  rw [List.drop_eq_getElem_cons hj, curFind]
theorem curFind_fst {c : ByteArray} : ∀ {l : List CurRow}, (∀ r ∈ l, r.1 ≠ ByteArray.empty) → decide ((curFind l c).1 ≠ ByteArray.empty) = curIn l c
  | [], _ => by simp [curFind, curIn, curZero]
  | r :: l, h => by
    unfold curFind
    have hr := h r (.head _)
    have ih := curFind_fst (c := c) fun r hr => h r (.tail _ hr)
    rw [curIn, List.any_cons]
    by_cases he : r.1 = c
    · rw [if_pos he, decide_eq_true hr]; simp [he]
    · rw [if_neg he, ih]; simp [he, curIn]
theorem flat_row : ∀ (l : List CurRow) (j : Nat) (hj : j < l.length), ((l.flatMap curCells).drop (j * 4)).take 4 = curCells (l[j]'hj)
  | r :: l, 0, _ => by simp [List.flatMap_cons, curCells]
  | r :: l, j + 1, hj => by
    have := flat_row l j (by simpa using hj)
    rw [List.flatMap_cons, show (j + 1) * 4 = 4 + j * 4 by omega, ← List.drop_drop, List.drop_left' (show (curCells r).length = 4 from rfl), this]
    rfl
theorem flat_length : ∀ (l : List CurRow), (l.flatMap curCells).length = l.length * 4
  | [] => rfl
  | r :: l => by rw [List.flatMap_cons, List.length_append, flat_length l, List.length_cons]; simp [curCells]; omega
theorem impl_length : implTab.length = 20 := rfl
set_option maxRecDepth 100000 in
theorem index_cur {j : Nat} (hj : j < implTab.length) {K : Value → Prop} (h : K (.agg ⟨curCells (implTab[j]'hj)⟩)) : indexS P T_20_impl_currency (.agg ⟨implTab.flatMap curCells⟩) (.int .i64 (j : Nat)) K := by
  have hu : P.underlying T_20_impl_currency = some (.array 20 T_impl_currency) := und_T_20_impl_currency
  have hc : P.cellsOf T_impl_currency = 4 := by kernel_rfl
  obtain ⟨fs, hs⟩ := und_T_impl_currency
  have hs : P.underlying T_impl_currency = some (.struct fs) := hs
  have hl := impl_length
  unfold indexS
  rw [hu]
  refine ⟨⟨by omega, by omega⟩, _, ?_, h⟩
  unfold partS
  rw [hs, hc]
  show Value.agg ⟨((implTab.flatMap curCells).drop (((j : Nat) : Int).toNat * 4)).take 4⟩ = _
  rw [Int.toNat_natCast, flat_row]
set_option maxRecDepth 100000 in
theorem impl_currencyOf_c {w : World} (ht : Tab w) (c : ByteArray) :
    Ret P n_impl_currencyOf [.string c] w fun v w' => v = .tuple #[.agg ⟨curCells (curFind implTab c)⟩, .bool (curKnown c)] ∧ Ext w w' := by
  have hlen := impl_length
  refine impl_currencyOf_ret ?_
  unfold impl_currencyOf
  intro r w1 hn1
  have e1 := hn1.r_eq; have s1 := hn1.size
  refine ⟨_, loadsA (by rw [flat_length]; kernel_rfl) (ht.ext hn1.ext), ?_⟩
  refine ⟨fun i wr => ∃ j : Nat, i = j ∧ j ≤ 20 ∧ Ext w1 wr ∧ curFind implTab c = curFind (implTab.drop j) c ∧ curKnown c = curIn (implTab.drop j) c, fun i _ => 20 - i.toNat, ⟨0, rfl, by omega, Ext.refl _, rfl, rfl⟩, ?_⟩
  intro junk wr i ⟨j, hij, hj, hx, hf, hk⟩
  subst hij
  have lx := hx.le
  refine ifD (fun hlt => ?_) (fun hge => ?_)
  · have hjl : j < implTab.length := by omega
    rw [curFind_drop hjl] at hf
    rw [curIn_drop hjl] at hk
    apply index_cur hjl
    intro r1 w2 hn2
    obtain ⟨w3, st, hb3, y3⟩ := hn2.fill (P := P) (t := T_impl_currency) (xs := curCells (implTab[j]'hjl)) (by simp [curCells, Value.oneCell']) (by kernel_rfl) rfl
    refine ⟨w3, st, _, hb3.loadAt 0 rfl (by kernel_rfl) rfl, ifD (fun heq => ?_) (fun hne => ?_)⟩
    · have hf := hf.trans (if_pos heq)
      rw [decide_eq_true heq, Bool.true_or] at hk
      obtain ⟨w4, st4, hb4, ch, sz⟩ := (hn1.blk.ext (hx.trans y3)).storeA0 (P := P) (t := T_impl_currency) (xs := curCells (implTab[j]'hjl)) (by kernel_rfl) rfl (by simp [curCells, Value.oneCell'])
      refine ⟨_, _, _, _, hb3.loadA0 (by kernel_rfl), w4, st4, _, _, _, _, hb4.loadA0 (by kernel_rfl), ?_, ((hn1.ext.trans hx).trans y3).chg ch (by simp; omega)⟩
      rw [hf, hk]; rfl
    · have hf := hf.trans (if_neg hne)
      rw [decide_eq_false hne, Bool.false_or] at hk
      refine exW ⟨by omega, by omega⟩ ⟨⟨j + 1, by omega, by omega, hx.trans y3, hf, hk⟩, ?_⟩
      show 20 - ((j : Int) + 1).toNat < 20 - (j : Int).toNat
      omega
  · rw [List.drop_of_length_le (by omega)] at hf hk
    obtain ⟨w4, st4, hb4, ch, sz⟩ := (hn1.blk.ext hx).storeA0 (P := P) (t := T_impl_currency) (xs := curCells curZero) (by kernel_rfl) rfl (by simp [curCells, Value.oneCell'])
    refine ⟨w4, st4, _, _, _, _, hb4.loadA0 (by kernel_rfl), ?_, (hn1.ext.trans hx).chg ch (by simp; omega)⟩
    rw [hf, hk]; rfl
theorem impl_CurKnown_c {w : World} (ht : Tab w) (c : ByteArray) :
    Ret P n_impl_CurKnown [.string c] w fun v w' => v = .bool (curKnown c) ∧ Ext w w' := by
  refine impl_CurKnown_ret ?_
  unfold impl_CurKnown
  refine Ret.at (impl_currencyOf_c ht c) ?_
  rintro v w1 ⟨hv, y1⟩
  subst hv
  refine ⟨_, _, _, _, _, rfl, ?_⟩
  intro r w2 hn2
  obtain ⟨w3, st, hb3, y3⟩ := hn2.fill (P := P) (t := T_impl_currency) (xs := curCells (curFind implTab c)) (by simp [curCells, Value.oneCell']) (by kernel_rfl) rfl
  exact ⟨w3, st, rfl, y1.trans y3⟩
theorem spec_nonempty : ∀ r ∈ specTab, r.1 ≠ ByteArray.empty := by
  have : (specTab.all fun r => decide (r.1 ≠ ByteArray.empty)) = true := by decide +kernel
  intro r hr
  rw [List.all_eq_true] at this
  exact of_decide_eq_true (this r hr)
theorem spec_known (c : ByteArray) : curIn specTab c = curKnown c := by
  have h1 : (specTab.all fun r => curIn implTab r.1) = true := by decide +kernel
  have h2 : (implTab.all fun r => curIn specTab r.1) = true := by decide +kernel
  rw [List.all_eq_true] at h1 h2
  have key : ∀ {a b : List CurRow}, (∀ r ∈ a, curIn b r.1 = true) → curIn a c = true → curIn b c = true := by
    intro a b h hc
    unfold curIn at hc
    rw [List.any_eq_true] at hc
    obtain ⟨r, hr, he⟩ := hc
    have he := of_decide_eq_true he
    have := h r hr
    rwa [he] at this
  unfold curKnown
  cases h3 : curIn specTab c with
  | true => exact (key h1 h3).symm
  | false =>
    cases h4 : curIn implTab c with
    | false => rfl
    | true => rw [key h2 h4] at h3; cases h3
theorem spec_length : specTab.length = 20 := rfl
theorem spec_l08Find_c {w : World} (c : ByteArray) :
    Ret P n_spec_l08Find [.string c] w fun v w' => v = .agg ⟨curCells (curFind specTab c)⟩ ∧ Ext w w' := by
  have hlen := spec_length
  refine spec_l08Find_ret ?_
  unfold spec_l08Find
  intro r w1 hn1
  have e1 := hn1.r_eq; have s1 := hn1.size
  refine Ret.at (R := fun v w' => ∃ r, v = .slice (some ⟨r, 0, none⟩) 20 20 ∧ Seg w' r 0 (specTab.flatMap curCells) ∧ Ext w1 w') ?_ ?_
  · refine spec_l08Table_ret ?_
    unfold spec_l08Table
    intro r2 w2 hn2
    exact ⟨r2, rfl, hn2.blk.seg, hn2.ext⟩
  rintro v w2 ⟨r2, hv, hseg, y2⟩
  subst hv
  refine ⟨_, _, _, rfl, ?_⟩
  refine ⟨fun i wr => ∃ j : Nat, i = j ∧ j ≤ 20 ∧ Ext w2 wr ∧ curFind specTab c = curFind (specTab.drop j) c, fun i _ => 20 - i.toNat, ⟨0, rfl, by omega, Ext.refl _, rfl⟩, ?_⟩
  intro junk wr i ⟨j, hij, hj, hx, hf⟩
  subst hij
  have lx := hx.le; have ly := y2.le
  refine ifD (fun hlt => ?_) (fun hge => ?_)
  · have hjl : j < specTab.length := by omega
    rw [curFind_drop hjl] at hf
    have hrow : Seg wr r2 (0 + j * 4) (curCells (specTab[j]'hjl)) := by
      rw [← flat_row specTab j hjl]
      exact ((hseg.ext hx).drop (j * 4)).take 4
    refine ⟨⟨by omega, by omega⟩, _, _, _, _, (by simp only [addr_add, Int.toNat_natCast]; exact loadsA (cs := curCells (specTab[j]'hjl)) (by kernel_rfl) hrow), ?_⟩
    intro r1 w3 hn3
    obtain ⟨w4, st, hb4, y4⟩ := hn3.fill (P := P) (t := T_spec_l08Row) (xs := curCells (specTab[j]'hjl)) (by simp [curCells, Value.oneCell']) (by kernel_rfl) rfl
    refine ⟨w4, st, _, hb4.loadAt 0 rfl (by kernel_rfl) rfl, ifD (fun heq => ?_) (fun hne => ?_)⟩
    · have hf := hf.trans (if_pos heq)
      obtain ⟨w5, st5, hb5, ch, sz⟩ := (hn1.blk.ext ((y2.trans hx).trans y4)).storeA0 (P := P) (t := T_spec_l08Row) (xs := curCells (specTab[j]'hjl)) (by kernel_rfl) rfl (by simp [curCells, Value.oneCell'])
      refine ⟨_, _, _, _, hb4.loadA0 (by kernel_rfl), w5, st5, _, _, _, _, hb5.loadA0 (by kernel_rfl), ?_, (((hn1.ext.trans y2).trans hx).trans y4).chg ch (by simp; omega)⟩
      rw [hf]; rfl
    · have hf := hf.trans (if_neg hne)
      refine exW ⟨by omega, by omega⟩ ⟨⟨j + 1, by omega, by omega, hx.trans y4, hf⟩, ?_⟩
      show 20 - ((j : Int) + 1).toNat < 20 - (j : Int).toNat
      omega
  · rw [List.drop_of_length_le (by omega)] at hf
    obtain ⟨w4, st4, hb4, ch, sz⟩ := (hn1.blk.ext (y2.trans hx)).storeA0 (P := P) (t := T_spec_l08Row) (xs := curCells curZero) (by kernel_rfl) rfl (by simp [curCells, Value.oneCell'])
    refine ⟨w4, st4, _, _, _, _, hb4.loadA0 (by kernel_rfl), ?_, ((hn1.ext.trans y2).trans hx).chg ch (by simp; omega)⟩
    rw [hf]; rfl
theorem spec_CurKnown_c {w : World} (c : ByteArray) :
    Ret P n_spec_CurKnown [.string c] w fun v w' => v = .bool (curKnown c) ∧ Ext w w' := by
  refine spec_CurKnown_ret ?_
  unfold spec_CurKnown
  refine Ret.at (spec_l08Find_c c) ?_
  rintro v w1 ⟨hv, y1⟩
  subst hv
  refine ⟨_, _, _, _, rfl, ?_, y1⟩
  rw [← spec_known, ← curFind_fst spec_nonempty]
  rfl
end Go.Proofs.YtfehpaekbbmkcaaGreatDoor

namespace Go.Proofs.YtfehpaekbbmkcaaGreatDoor
open Go Go.Proofs.YtfehpaekbbmkcaaGreatDoor.Sx
set_option linter.unusedVariables false
set_option linter.unusedSimpArgs false
def moneyOk : List D0 → Bool
  | [.str c, .bool b, .ints z] => curKnown c && intOk [.bool b, .ints z] && decide (z.length ≤ 4)
  | _ => false
theorem spec_MoneyOk_c {w : World} {xs : List Value} {dx : List D0} (h : Reps w xs dx) (hc : dx.map D0.code = [.str, .bool, .ints]) :
    Ret P n_spec_MoneyOk [.agg ⟨xs⟩] w fun v w' => v = .bool (moneyOk dx) ∧ Ext w w' := by
  obtain ⟨t0, a0, a1p, a1n, a1c, a1z, rfl, rfl, ha⟩ := open_Money h hc
  have hl := ha.1
  refine spec_MoneyOk_ret ?_
  unfold spec_MoneyOk
  intro r w1 hn1
  refine ⟨_, hn1.blk.loadAt 0 rfl (by kernel_rfl) rfl, ?_⟩
  refine Ret.at (spec_CurKnown_c t0) ?_
  rintro v w2 ⟨hv, y2⟩
  subst hv
  have X := hn1.ext.trans y2
  have b := hn1.blk.ext y2
  refine ⟨_, rfl, fun e1 => ?_, fun e1 => ifF ⟨by simp only [moneyOk, e1, Bool.false_and], X⟩⟩
  refine ⟨_, _, _, _, b.loadAAt 1 [.bool a0, .slice a1p a1n a1c] rfl (by kernel_rfl) rfl, ?_⟩
  have hs : Reps w2 [.bool a0, .slice a1p a1n a1c] [.bool a0, .ints a1z] := ⟨rfl, ⟨_, _, _, rfl, ha.ext X⟩, trivial⟩
  refine Ret.at (spec_IntOk_c hs rfl) ?_
  rintro v w3 ⟨hv, y3⟩
  subst hv
  refine ⟨_, rfl, fun e2 => ⟨_, _, _, (b.ext y3).loadAt 2 rfl (by kernel_rfl) rfl, ?_, X.trans y3⟩, fun e2 => ⟨by simp only [moneyOk, e2, Bool.and_false, Bool.false_and], X.trans y3⟩⟩
  simp only [moneyOk, e1, e2, Bool.true_and]
  congr 1
  simp; omega
theorem impl_MoneyOk_c {w : World} (ht : Tab w) {xs : List Value} {dx : List D0} (h : Reps w xs dx) (hc : dx.map D0.code = [.str, .bool, .ints]) :
    Ret P n_impl_MoneyOk [.agg ⟨xs⟩] w fun v w' => v = .bool (moneyOk dx) ∧ Ext w w' := by
  obtain ⟨t0, a0, a1p, a1n, a1c, a1z, rfl, rfl, ha⟩ := open_Money h hc
  have hl := ha.1
  refine impl_MoneyOk_ret ?_
  unfold impl_MoneyOk
  intro r w1 hn1
  refine ⟨_, hn1.blk.loadAt 0 rfl (by kernel_rfl) rfl, ?_⟩
  refine Ret.at (impl_CurKnown_c (ht.ext hn1.ext) t0) ?_
  rintro v w2 ⟨hv, y2⟩
  subst hv
  have X := hn1.ext.trans y2
  have b := hn1.blk.ext y2
  refine ⟨_, rfl, fun e1 => ?_, fun e1 => ifF ⟨by simp only [moneyOk, e1, Bool.false_and], X⟩⟩
  refine ⟨_, _, _, _, b.loadAAt 1 [.bool a0, .slice a1p a1n a1c] rfl (by kernel_rfl) rfl, ?_⟩
  have hs : Reps w2 [.bool a0, .slice a1p a1n a1c] [.bool a0, .ints a1z] := ⟨rfl, ⟨_, _, _, rfl, ha.ext X⟩, trivial⟩
  refine Ret.at (impl_IntOk_c hs rfl) ?_
  rintro v w3 ⟨hv, y3⟩
  subst hv
  refine ⟨_, rfl, fun e2 => ⟨_, _, _, (b.ext y3).loadAt 2 rfl (by kernel_rfl) rfl, ?_, X.trans y3⟩, fun e2 => ⟨by simp only [moneyOk, e2, Bool.and_false, Bool.false_and], X.trans y3⟩⟩
  simp only [moneyOk, e1, e2, Bool.true_and]
  congr 1
  simp; omega
end Go.Proofs.YtfehpaekbbmkcaaGreatDoor

namespace Go.Proofs.YtfehpaekbbmkcaaGreatDoor
open Go Go.Proofs.YtfehpaekbbmkcaaGreatDoor.Sx
set_option linter.unusedVariables false
set_option linter.unusedSimpArgs false
theorem moneyOk_int {c : ByteArray} {b : Bool} {z : List Int} (h : moneyOk [.str c, .bool b, .ints z] = true) : intOk [.bool b, .ints z] = true := by
  simp only [moneyOk, Bool.and_eq_true] at h
  exact h.1.2
end Go.Proofs.YtfehpaekbbmkcaaGreatDoor

namespace Go.Proofs.YtfehpaekbbmkcaaGreatDoor
open Go Go.Proofs.YtfehpaekbbmkcaaGreatDoor.Sx
set_option linter.unusedVariables false
set_option linter.unusedSimpArgs false
theorem laws_markIntS_c {w : World} {B : Nat} {p : Option Addr} {n c : Nat} {zs : List Int} {k : Int} (h : Own w B T_int 1 p n c (zs.map (Value.int .i64))) (h0 : 0 ≤ k) (h1 : k + n ≤ 9223372036854775807) :
    Ret P n_laws_markIntS [.slice p n c, .int .i64 k] w fun v w' => v = .int .i64 (k + n) ∧ Own w' B T_int 1 p n c ((mkI n k).map (Value.int .i64)) ∧ Chg (p.map (·.block)).toList w w' := by
  have hz : zs.length = n := by have := h.len; simpa using this
  have hcap := h.le
  refine laws_markIntS_ret ?_
  unfold laws_markIntS
  refine ⟨fun k1 i wr => ∃ j : Nat, i = j ∧ j ≤ n ∧ k1 = k + j ∧ Own wr B T_int 1 p n c ((mkI j k ++ zs.drop j).map (Value.int .i64)) ∧ Chg (p.map (·.block)).toList w wr, fun _ i _ => n - i.toNat, ⟨0, rfl, by omega, by omega, by simpa [mkI] using h, Chg.refl _ _⟩, ?_⟩
  intro junk wr k1 i ⟨j, hij, hj, hk1, ho, hch⟩
  subst hij; subst hk1
  refine ifD (fun hlt => ?_) (fun hge => ?_)
  · obtain ⟨b, w2, hp, st, ho2, ch2, sz2⟩ := ho.set (P := P) (t := T_int) (i := j) (v := .int .i64 (k + j)) (by simp [mkI_len]; omega) (by kernel_rfl) rfl
    subst hp
    refine ⟨⟨by omega, by omega⟩, w2, by simpa using st, exW ⟨by omega, by omega⟩ (exW ⟨by omega, by omega⟩ ⟨⟨j + 1, by omega, by omega, by omega, ?_, hch.trans ch2⟩, ?_⟩)⟩
    · have e : (mkI j k ++ zs.drop j).set j (k + (j : Nat)) = mkI (j + 1) k ++ zs.drop (j + 1) := by
        rw [List.set_append_right _ _ (by rw [mkI_len]; omega), mkI_len, Nat.sub_self, mkI_succ, List.drop_eq_getElem_cons (show j < zs.length by omega), List.set_cons_zero, List.append_assoc]
        rfl
      rw [← e, List.map_set]
      exact ho2
    · show n - ((j : Int) + 1).toNat < n - (j : Int).toNat
      omega
  · have hjn : j = n := by omega
    subst hjn
    rw [List.drop_of_length_le (by omega), List.append_nil] at ho
    exact ⟨rfl, ho, hch⟩
theorem laws_heldIntS_c {w : World} {p : Option Addr} {n c : Nat} {k : Int} (h : IntsR w p n c (mkI n k)) (h0 : 0 ≤ k) (h1 : k + n ≤ 9223372036854775807) :
    Ret P n_laws_heldIntS [.slice p n c, .int .i64 k] w fun v w' => v = .int .i64 (k + n) ∧ Ext w w' := by
  have hcap := h.2.1; have hcm := h.2.2.1
  refine laws_heldIntS_ret ?_
  unfold laws_heldIntS
  refine ⟨fun k1 i wr => ∃ j : Nat, i = j ∧ j ≤ n ∧ k1 = k + j ∧ Ext w wr, fun _ i _ => n - i.toNat, ⟨0, rfl, by omega, by omega, Ext.refl _⟩, ?_⟩
  intro junk wr k1 i ⟨j, hij, hj, hk1, hx⟩
  subst hij; subst hk1
  refine ifD (fun hlt => ?_) (fun hge => ?_)
  · have hjn : j < n := by omega
    obtain ⟨a, hpa, hl⟩ := (h.ext hx).at (P := P) (t := T_int) (by kernel_rfl) hjn
    subst hpa
    rw [mkI_get] at hl
    refine ⟨⟨by omega, by omega⟩, k + (j : Nat), by simpa using hl, ifD (fun hne => absurd rfl hne) (fun _ => exW ⟨by omega, by omega⟩ (exW ⟨by omega, by omega⟩ ⟨⟨j + 1, by omega, by omega, by omega, hx⟩, ?_⟩))⟩
    show n - ((j : Int) + 1).toNat < n - (j : Int).toNat
    omega
  · have hjn : j = n := by omega
    subst hjn
    exact ⟨rfl, hx⟩
theorem bne_no {a b : Bool} (e : a = b) : ¬ (!(a == b)) = true := by subst e; simp
theorem convs_bytes {w : World} {s e d ee : TypeId} {r : Nat} (xs : List Int) (hs : P.underlying s = some (.slice e)) (he : P.underlying e = some (.int .u8)) (hd : P.underlying d = some .string) (hb : Blk w r ee (xs.map (Value.int .u8))) :
    Convs P s d (.slice (some ⟨r, 0, none⟩) xs.length xs.length) (.string (strOfNums xs)) w :=
  run_convert_bytes_arg w s e hs he r 0 xs.length xs.length xs rfl (fun i hi => by
    have := hb.seg i (.int .u8 (xs.getD i 0)) (by simp [List.getD_eq_getElem?_getD, List.getElem?_eq_getElem hi])
    simpa using this) d hd
theorem laws_markText_c {k : Int} (hk : k ≤ 1000000000000000000) (w : World) : Ret P n_laws_markText [.int .i64 k] w fun v w' => v = .string (mtext k) ∧ Ext w w' := by
  refine laws_markText_ret ?_
  unfold laws_markText
  refine ifD (fun h => ⟨by rw [mtext, if_pos h], Ext.refl _⟩) (fun h => ?_)
  refine ⟨fun k1 out wr => 0 ≤ k1 ∧ k1 ≤ k ∧ out.size + k1 ≤ k ∧ mdig k1.toNat out = mdig k.toNat ByteArray.empty ∧ Ext w wr, fun k1 _ _ => k1.toNat, ⟨by omega, by omega, by show (0 : Int) + k ≤ k; omega, rfl, Ext.refl _⟩, ?_⟩
  intro junk wr k1 out ⟨h0, hle, hsz, hm, hx⟩
  refine ifD (fun hpos => ?_) (fun hz => ?_)
  · have ht : Int.tmod k1 10 = k1 % 10 := Int.tmod_eq_emod_of_nonneg h0
    have htd : Int.tdiv k1 10 = k1 / 10 := Int.tdiv_eq_ediv_of_nonneg h0
    refine ⟨by decide, _, rfl, ?_⟩
    rw [ht]
    refine exW ⟨by omega, by omega⟩ ⟨_, rfl, ?_⟩
    have wu : IntKind.wrap .u8 (48 + k1 % 10) = 48 + k1 % 10 := by
      simp only [IntKind.wrap, IntKind.bits, IntKind.signed]
      simp
      omega
    rw [wu]
    intro r w1 hn
    refine ⟨_, convs_bytes (ee := T_uint8) [48 + k1 % 10] (e := T_uint8) (by kernel_rfl) (by kernel_rfl) (by kernel_rfl) hn.blk, ?_, _, rfl, by decide, ?_⟩
    · rw [strOfNums_size]; simp; omega
    rw [htd]
    refine exW ⟨by omega, by omega⟩ ⟨⟨by omega, by omega, ?_, ?_, hx.trans hn.ext⟩, ?_⟩
    · rw [ByteArray.size_append, strOfNums_size]; simp; omega
    · rw [← hm, mdig_pos (k := k1.toNat) (by omega)]
      have e1 : (k1 / 10).toNat = k1.toNat / 10 := by omega
      have e2 : (48 + k1 % 10) = ((48 + k1.toNat % 10 : Nat) : Int) := by omega
      rw [e1, e2]
    · show (k1 / 10).toNat < k1.toNat
      omega
  · have : k1.toNat = 0 := by omega
    rw [this, mdig_zero] at hm
    refine ⟨?_, _, rfl, ?_, hx⟩
    · show 1 + out.size ≤ 9223372036854775807
      omega
    · rw [mtext, if_neg h, hm]
end Go.Proofs.YtfehpaekbbmkcaaGreatDoor

namespace Go.Proofs.YtfehpaekbbmkcaaGreatDoor
open Go Go.Proofs.YtfehpaekbbmkcaaGreatDoor.Sx
set_option linter.unusedVariables false
set_option linter.unusedSimpArgs false
theorem cntL_nn {d : List (List D0)} {m : Int} (_ : cntL d ≤ m) : 0 ≤ cntL d := cntL_nonneg d
end Go.Proofs.YtfehpaekbbmkcaaGreatDoor

namespace Go.Proofs.YtfehpaekbbmkcaaGreatDoor
open Go Go.Proofs.YtfehpaekbbmkcaaGreatDoor.Sx
set_option linter.unusedVariables false
set_option linter.unusedSimpArgs false
theorem digs_len_le {n : Nat} (h : n < 1000000000000000000000000000000000000000000000000000000) : (digs n).length ≤ 6 := digs_len 6 (by omega)
theorem money_bound {c : ByteArray} {b : Bool} {z : List Int} (h : moneyOk [.str c, .bool b, .ints z] = true) : (ival [.bool b, .ints z]).natAbs ≤ 1000000000000000000000000000000000000 := by
  have hi := moneyOk_int h
  simp only [moneyOk, Bool.and_eq_true, decide_eq_true_eq] at h
  obtain ⟨_, _, _, h1, hc, _⟩ := intOk_enc hi
  simp only [List.cons.injEq, D0.bool.injEq, D0.ints.injEq, and_true] at h1
  obtain ⟨rfl, rfl⟩ := h1
  have hv := val_nonneg hc.1
  have hlt := val_lt hc.1
  have h6 : (1000000000 : Nat) ^ z.length ≤ 1000000000 ^ 4 := Nat.pow_le_pow_right (by decide) h.2
  have h6' := Int.ofNat_le.2 h6
  rw [Int.natCast_pow, Int.natCast_pow] at h6'
  have h7 : val z < (1000000000 : Int) ^ 4 := Int.lt_of_lt_of_le hlt h6'
  have h8 : ((1000000000 : Int) ^ 4) = 1000000000000000000000000000000000000 := by decide
  rw [h8] at h7
  cases b <;> simp only [ival, if_true, Bool.false_eq_true, if_false] <;> omega
theorem enc_small {z : Int} (h : z.natAbs < 1000000000000000000000000000000000000000000000000000000) : intOk (enc z) = true := by
  have := digs_len_le h
  rw [← icap_fit (by omega)]; exact icap_ok z
theorem iadd_small {x y : Int} (hx : x.natAbs < 100000000000000000000000000000000000000000000000000000) (hy : y.natAbs < 100000000000000000000000000000000000000000000000000000) : iadd (enc x) (enc y) = enc (x + y) := by
  have h3 : (digs (x + y).natAbs).length ≤ 6 := digs_len_le (by omega)
  rw [iadd, enc_small (by omega), enc_small (by omega)]
  simp only [Bool.and_self, if_true]
  rw [ival_enc, ival_enc]
  exact icap_fit (by omega)
end Go.Proofs.YtfehpaekbbmkcaaGreatDoor

namespace Go.Proofs.YtfehpaekbbmkcaaGreatDoor
open Go Go.Proofs.YtfehpaekbbmkcaaGreatDoor.Sx
set_option linter.unusedVariables false
set_option linter.unusedSimpArgs false
def zeroMoney : List D0 := [.str ByteArray.empty, .bool false, .ints []]
def moneyMk (cur : ByteArray) (z : Int) : List D0 := if moneyOk (.str cur :: enc z) then .str cur :: enc z else zeroMoney
theorem moneyMk_code (cur : ByteArray) (z : Int) : (moneyMk cur z).map D0.code = [.str, .bool, .ints] := by unfold moneyMk; split <;> rfl
theorem spec_IntNeg_c {w : World} {xs : List Value} {z : Int} (h : Reps w xs (enc z)) (hok : intOk (enc z) = true) :
    Ret P n_spec_IntNeg [.agg ⟨xs⟩] w fun v w' => ∃ vs' f, v = .agg ⟨vs'⟩ ∧ Owns w' w.heap.size vs' (enc (-z)) f ∧ f.Nodup ∧ Ext w w' := by
  have hr := h
  obtain ⟨a0, a1p, a1n, a1c, a1z, rfl, hd, ha⟩ := open_Signed h (enc_code _)
  simp only [enc, List.cons.injEq, D0.bool.injEq, D0.ints.injEq, and_true] at hd
  obtain ⟨rfl, rfl⟩ := hd
  have hlen : (digs z.natAbs).length ≤ 50 := by
    obtain ⟨_, _, _, h1, hc, hl⟩ := intOk_enc hok
    simp only [enc, List.cons.injEq, D0.bool.injEq, D0.ints.injEq, and_true] at h1
    rw [h1.2]; exact hl
  refine spec_IntNeg_ret ?_
  unfold spec_IntNeg
  intro r w1 hn1 r1 w2 hn2
  have X := hn1.ext.trans hn2.ext
  have e1 := hn1.r_eq; have e2 := hn2.r_eq; have s1 := hn1.size; have s2 := hn2.size
  refine ⟨_, _, _, _, (hn1.blk.ext hn2.ext).loadA0 (by kernel_rfl), ?_⟩
  refine Ret.at (spec_IntOk_c (hr.ext X) rfl) ?_
  rintro v w3 ⟨hv, y3⟩
  subst hv
  refine ⟨_, rfl, ifN (fun hno => absurd (hno.symm.trans hok) (by simp)) (fun _ => ?_)⟩
  have k0 := (hn1.blk.ext hn2.ext).ext y3
  refine ⟨_, k0.loadAt 0 rfl (by kernel_rfl) rfl, _, _, _, k0.loadAt 1 rfl (by kernel_rfl) rfl, ?_⟩
  refine Ret.at (spec_l04Make_c (ha.ext (X.trans y3)) (digs_limbs _)) ?_
  rintro v w4 ⟨b, q, qn, qc, hv, hbb, ho, y4⟩
  subst hv
  have l3 := y3.le
  obtain ⟨w5, st, hb5, ch, sz⟩ := ((hn2.blk.ext y3).ext y4).storeA0 (P := P) (t := T_impl_Signed) (xs := [.bool b, .slice q qn qc]) (by kernel_rfl) rfl (by simp [Value.oneCell'])
  have ow := Owns.int2 (b := b) ho
  rw [hbb, val_digs, show (((z.natAbs : Nat) : Int)).toNat = z.natAbs from rfl] at ow
  have e : mkS (!decide (z < 0)) (capL (digs z.natAbs)) = enc (-z) := by
    rw [← icap_fit (z := -z) (by rw [Int.natAbs_neg]; exact hlen)]
    refine mkS_digs (by rw [Int.natAbs_neg]) fun h0 => ?_
    by_cases h1 : z < 0
    · simp [h1]; omega
    · simp [h1]; omega
  have ow2 : Owns w4 w3.heap.size [.bool b, .slice q qn qc] (enc (-z)) (q.map (·.block)).toList := by
    rw [← e, hbb, val_digs, show (((z.natAbs : Nat) : Int)).toNat = z.natAbs from rfl]; exact ow
  exact ⟨_, _, _, _, rfl, w5, st, _, _, _, _, hb5.loadA0 (by kernel_rfl), _, _, rfl, (ow2.chg1 ch (by omega)).mono (by omega), nodup_opt q, ((X.trans y3).trans y4).chg ch (by simp; omega)⟩
end Go.Proofs.YtfehpaekbbmkcaaGreatDoor

namespace Go.Proofs.YtfehpaekbbmkcaaGreatDoor
open Go Go.Proofs.YtfehpaekbbmkcaaGreatDoor.Sx
set_option linter.unusedVariables false
set_option linter.unusedSimpArgs false
theorem impl_ratNeg_c {w : World} {xs : List Value} {dx : List D0} (h : Reps w xs dx) (hc : dx.map D0.code = [.bool, .ints, .ints]) (hok : ratOk dx = true) :
    Ret P n_impl_ratNeg [.agg ⟨xs⟩] w fun v w' => ∃ vs' f, v = .agg ⟨vs'⟩ ∧ Owns w' w.heap.size vs' (rmk (-(ratNum dx)) (ratDen dx)) f ∧ f.Nodup ∧ Ext w w' := by
  have ok := (ratOk_enc hok).2
  obtain ⟨p1, n1, c1, p2, n2, c2, rfl, i1, i2, g1, g2, he⟩ := rat_parts h hc hok
  refine impl_ratNeg_ret ?_
  unfold impl_ratNeg
  intro r w1 hn1 r1 w2 hn2
  have D := Ext.drew w2
  have X := (hn1.ext.trans hn2.ext).trans D
  have k0 := hn1.blk.ext hn2.ext; have k1 := hn2.blk.ext D
  have e2 := hn2.r_eq; have s1 := hn1.size; have s2 := hn2.size; have lD := D.le
  refine ⟨_, _, _, _, fun W hW => (k0.ext (D.trans hW)).loadAAt 0 [.bool (decide (ratNum dx < 0)), .slice p1 n1 c1] rfl (by kernel_rfl) rfl, ?_⟩
  refine Ret.at (impl_intNeg_c (he.ext X) (by omega)) ?_
  rintro v w3 ⟨vs, f, hv, ho, nd, y3⟩
  subst hv
  obtain ⟨b0, bp, bn, bc, bz, rfl, hq, hbr⟩ := open_Signed ho.reps (enc_code _)
  refine ⟨_, _, _, _, rfl, y3, _, _, _, fun W hW => (k0.ext (D.trans hW)).loadAt 2 rfl (by kernel_rfl) rfl, ?_⟩
  refine Ret.at (impl_natCopy_c (i2.ext (X.trans y3)) (by omega)) ?_
  rintro v w4 ⟨p, c, hv, ho2, y4⟩
  subst hv
  have l3 := y3.le; have l4 := y4.le
  obtain ⟨w5, st, hb5, ch, sz⟩ := ((k1.ext y3).ext y4).storeA0 (P := P) (t := T_impl_Rat) (xs := [.bool b0, .slice bp bn bc, .slice p n2 c]) (by kernel_rfl) rfl (by simp [Value.oneCell'])
  have q1 := (ho.ext y4).chg1 ch (by omega)
  have q2 := (Owns.ints ho2).chg1 ch (by omega)
  refine ⟨_, _, _, rfl, w5, st, _, _, _, _, _, _, _, hb5.loadA0 (by kernel_rfl), _, f ++ (p.map (·.block)).toList, rfl, ?_, ?_, ((X.trans y3).trans y4).chg ch (by simp; omega)⟩
  · rw [rmk_enc]; exact Owns.append (q1.mono (by omega)) (q2.mono (by omega))
  exact nodup_append nd (nodup_opt p) (m := w3.heap.size) (fun k hk => (ho.lt k hk).2) (fun k hk => ((Owns.ints ho2).lt k hk).1)
theorem spec_RatNeg_c {w : World} {xs : List Value} {dx : List D0} (h : Reps w xs dx) (hc : dx.map D0.code = [.bool, .ints, .ints]) (hok : ratOk dx = true) :
    Ret P n_spec_RatNeg [.agg ⟨xs⟩] w fun v w' => ∃ vs' f, v = .tuple #[.agg ⟨vs'⟩, .bool true] ∧ Owns w' w.heap.size vs' (rmk (-(ratNum dx)) (ratDen dx)) f ∧ Ext w w' := by
  have ok := (ratOk_enc hok).2
  have hr := h
  obtain ⟨p1, n1, c1, p2, n2, c2, rfl, i1, i2, g1, g2, he⟩ := rat_parts h hc hok
  refine spec_RatNeg_ret ?_
  unfold spec_RatNeg
  intro r w1 hn1 r1 w2 hn2
  have X2 := hn1.ext.trans hn2.ext
  refine ⟨_, _, _, _, _, _, _, (hn1.blk.ext hn2.ext).loadA0 (by kernel_rfl), ?_⟩
  refine Ret.at (spec_RatOk_c (hr.ext X2) hc) ?_
  rintro v w3 ⟨hv, y3⟩
  subst hv
  refine ⟨_, rfl, ifN (fun e => by rw [hok] at e; cases e) (fun _ => ?_)⟩
  have D := Ext.drew w3
  have X := (X2.trans y3).trans D
  have k0 := ((hn1.blk.ext hn2.ext).ext y3).ext D; have k1 := (hn2.blk.ext y3).ext D
  have e2 := hn2.r_eq; have s1 := hn1.size; have s2 := hn2.size; have lD := D.le; have ly3 := y3.le
  refine ⟨_, _, _, _, fun W hW => (k0.ext hW).loadAAt 0 [.bool (decide (ratNum dx < 0)), .slice p1 n1 c1] rfl (by kernel_rfl) rfl, ?_⟩
  intro ss w4 f1
  have hok' : intOk (enc (ratNum dx)) = true := by
    have := icap_ok (ratNum dx)
    rwa [icap_fit (by omega)] at this
  refine Ret.at (spec_IntNeg_c (he.ext (X.trans f1.ext)) hok') ?_
  rintro v w5 ⟨vs, f, hv, ho, nd, y5⟩
  subst hv
  have ho' := ho
  obtain ⟨b0, bp, bn, bc, bz, rfl, hq, hbr⟩ := open_Signed ho.reps (enc_code _)
  refine ⟨_, _, _, _, rfl, y5, _, _, _, fun W hW => (k0.ext hW).loadAt 2 rfl (by kernel_rfl) rfl, ?_⟩
  intro ss1 w6 r3 f2 g3
  have Y := (f1.ext.trans y5).trans f2.ext
  have hb3 : w3.drew.heap.size ≤ r3 ∧ Blk w6 r3 T_int [] := by
    have len0 := f1.len
    cases hs : ss[0]? with
    | none =>
      rw [List.getElem?_eq_none_iff, len0] at hs
      simp at hs
    | some v =>
      cases v with
      | some q =>
        obtain ⟨b, hq⟩ := f1.got (k := 0) rfl rfl hs
        have e := (f2.keeps hs).symm.trans g3
        have e : q = r3 := by simpa using e
        rw [e] at b hq
        exact ⟨b, (Blk.ext (show Blk w4 r3 T_int [] from hq) y5).ext f2.ext⟩
      | none =>
        obtain ⟨b, hq⟩ := f2.got (k := 0) hs rfl g3
        exact ⟨Nat.le_trans ((f1.ext.trans y5).le) b, hq⟩
  obtain ⟨p7, c7, w7, a7, o7, y7⟩ := append0 hb3.2 (i2.ext (X.trans Y)) (by omega)
  have Z := Y.trans y7
  have lZ := f1.ext.le
  obtain ⟨w8, st, hb8, ch, sz⟩ := (k1.ext Z).storeA0 (P := P) (t := T_impl_Rat) (xs := [.bool b0, .slice bp bn bc, .slice p7 n2 c7]) (by kernel_rfl) rfl (by simp [Value.oneCell'])
  have q1 := ((ho'.ext f2.ext).ext y7).chg1 ch (by omega)
  have q2 := (Owns.ints (o7.mono hb3.1)).chg1 ch (by omega)
  refine ⟨_, _, _, _, a7, w8, st, _, _, _, _, _, _, _, hb8.loadA0 (by kernel_rfl), _, f ++ (p7.map (·.block)).toList, rfl, ?_, (X.trans Z).chg ch (by simp; omega)⟩
  rw [rmk_enc]; exact Owns.append (q1.mono (by omega)) (q2.mono (by omega))
end Go.Proofs.YtfehpaekbbmkcaaGreatDoor

namespace Go.Proofs.YtfehpaekbbmkcaaGreatDoor
open Go Go.Proofs.YtfehpaekbbmkcaaGreatDoor.Sx
set_option linter.unusedVariables false
set_option linter.unusedSimpArgs false
theorem lt_of_len {x i : Nat} (h : (digs x).length ≤ i) : x < 1000000000 ^ i := by
  have h1 := val_lt (digs_limbs x)
  rw [val_digs] at h1
  have : ((x : Nat) : Int) < ((1000000000 ^ (digs x).length : Nat) : Int) := by simpa using h1
  exact Nat.lt_of_lt_of_le (Int.ofNat_lt.1 this) (Nat.pow_le_pow_right (by decide) h)
theorem sum_len {x y : Int} {i : Nat} (hx : (digs x.natAbs).length ≤ i) (hy : (digs y.natAbs).length ≤ i) : (digs (x + y).natAbs).length ≤ i + 1 := by
  apply digs_len
  have h1 := lt_of_len hx; have h2 := lt_of_len hy
  have h3 : (x + y).natAbs ≤ x.natAbs + y.natAbs := Int.natAbs_add_le x y
  rw [Nat.pow_succ]
  omega
theorem ratOk_neg {N : Int} {D : Nat} (h : ratOk (rmk N D) = true) : ratOk (rmk (-N) D) = true := by
  obtain ⟨_, h1, h2, h3, h4⟩ := ratOk_enc h
  rw [ratNum_rmk] at h2 h3
  rw [ratDen_rmk] at h1 h2 h4
  exact ratOk_rmk h1 (by rw [Int.natAbs_neg]; exact h2) (by rw [Int.natAbs_neg]; exact h3) h4
theorem cross_len {N : Int} {E : Nat} (hN : (digs N.natAbs).length ≤ 18) (hE : (digs E).length ≤ 18) : (digs (N * (E : Int)).natAbs).length ≤ 36 := by
  rw [Int.natAbs_mul, Int.natAbs_natCast]
  exact prod_len hN hE
theorem IntsR.store2 {w w' : World} {r : Nat} {e : TypeId} {b : Bool} {q : Option Addr} {m d : Nat} {p : Option Addr} {n c : Nat} {z : List Int} (hb : Blk w r e [.bool b, .slice q m d]) (h : IntsR w p n c z) (ch : Chg [r] w w') : IntsR w' p n c z := by
  refine ⟨h.1, h.2.1, h.2.2.1, fun hn => ?_⟩
  obtain ⟨k, off, hp, hs⟩ := h.2.2.2 hn
  refine ⟨k, off, hp, hs.chg ch ?_⟩
  intro hm
  simp at hm
  subst hm
  have hl := h.1
  have h1 := hs 0 (.int .i64 (z[0]'(by omega))) (by simp [List.getElem?_eq_getElem (show 0 < z.length by omega)])
  rw [hb.cell] at h1
  generalize off + 0 = i at h1
  match i, h1 with
  | 0, h1 => simp at h1
  | 1, h1 => simp at h1
  | i + 2, h1 => simp at h1
theorem impl_Rat_num_n {w : World} {xs : List Value} {N : Int} {D E : Nat} {p : Option Addr} {m c : Nat} (h : Reps w xs (rmk N D)) (hok : ratOk (rmk N D) = true) (k : IntsR w p m c (digs E)) (hm : m ≤ 100) :
    Ret P n_impl_Rat_num [.agg ⟨xs⟩, .slice p m c] w fun v w' => ∃ vs f, v = .agg ⟨vs⟩ ∧ Owns w' w.heap.size vs (enc (N * E)) f ∧ f.Nodup ∧ Ext w w' := by
  obtain ⟨p1, n1, c1, q1, m1, d1, rfl, i1, i2, li1, li2, he, hd1⟩ := rmk_open h hok
  have ei1 := i1.1; have ek := k.1
  refine impl_Rat_num_ret ?_
  unfold impl_Rat_num
  intro r w1 hn1 r1 w2 hn2
  have e1 := hn1.r_eq; have e2 := hn2.r_eq; have z1 := hn1.size; have z2 := hn2.size
  have D := Ext.drew w2
  have lD := D.le
  have X := (hn1.ext.trans hn2.ext).trans D
  have b0 := (hn1.blk.ext hn2.ext).ext D; have b1 := hn2.blk.ext D
  refine ⟨_, fun W hW => (b0.ext hW).loadAt 0 rfl (by kernel_rfl) rfl, _, _, _, fun W hW => (b0.ext hW).loadAt 1 rfl (by kernel_rfl) rfl, ?_⟩
  refine Ret.at (impl_natMul_c (i1.ext X) (k.ext X) (digs_limbs _) (digs_limbs _) (by omega) (by omega)) ?_
  rintro v w4 ⟨p4, n4, c4, hv, o4, y4⟩
  subst hv
  rw [val_mul] at o4
  refine ⟨_, _, _, rfl, y4, ?_⟩
  refine Ret.at (impl_signed_c (neg := decide (N < 0)) o4.ints.1) ?_
  rintro v w5 ⟨hv, y5⟩
  subst hv
  have sg : N * (E : Int) ≠ 0 → decide (N < 0) = decide (N * (E : Int) < 0) := fun hh => by
    have := mul_sign hh
    rw [← this, decide_eq_false (show ¬ (E : Int) < 0 by omega)]
    cases decide (N < 0) <;> rfl
  obtain ⟨W', st, ld, ow, xx, _, _⟩ := agg_end (t := T_impl_Signed) ((b1.ext y4).ext y5) ((X.trans y4).trans y5) (by omega) (own_int (o4.ext y5) (z := N * (E : Int)) (by rw [Int.natAbs_mul, Int.natAbs_natCast]) sg) (by kernel_rfl) rfl (by omega) (by omega)
  exact ⟨_, _, _, _, rfl, W', st, _, _, _, _, ld, _, _, rfl, ow, nodup_opt p4, xx⟩
theorem impl_RatAdd_n {w : World} {xs ys : List Value} {N1 N2 : Int} {D1 D2 : Nat} (h : Reps w xs (rmk N1 D1)) (g : Reps w ys (rmk N2 D2)) (hok : ratOk (rmk N1 D1) = true) (gok : ratOk (rmk N2 D2) = true) :
    Ret P n_impl_RatAdd [.agg ⟨xs⟩, .agg ⟨ys⟩] w fun v w' => ∃ vs f, v = .tuple #[.agg ⟨vs⟩, .bool (redOk (N1 * D2 + N2 * D1) (D1 * D2))] ∧ Owns w' w.heap.size vs (redR (N1 * D2 + N2 * D1) (D1 * D2)) f ∧ f.Nodup ∧ Ext w w' := by
  have hr := h; have gr := g
  obtain ⟨p1, n1, c1, q1, m1, d1, rfl, i1, i2, li1, li2, he, hd1⟩ := rmk_open h hok
  obtain ⟨p2, n2, c2, q2, m2, d2, rfl, j1, j2, lj1, lj2, ke, hd2⟩ := rmk_open g gok
  have ei1 := i1.1; have ei2 := i2.1; have ej1 := j1.1; have ej2 := j2.1
  have pN := prod_len (x := N1.natAbs) (y := N2.natAbs) (i := 18) (j := 18) (by omega) (by omega)
  have pD := prod_len (x := D1) (y := D2) (i := 18) (j := 18) (by omega) (by omega)
  refine impl_RatAdd_ret ?_
  unfold impl_RatAdd
  intro r w1 hn1 r1 w2 hn2 r2 w3 hn3
  have e1 := hn1.r_eq; have e2 := hn2.r_eq; have e3 := hn3.r_eq; have z1 := hn1.size; have z2 := hn2.size; have z3 := hn3.size
  have X := (hn1.ext.trans hn2.ext).trans hn3.ext
  have b0 := (hn1.blk.ext hn2.ext).ext hn3.ext; have b1 := hn2.blk.ext hn3.ext; have b2 := hn3.blk
  refine ⟨_, _, _, _, _, _, _, b0.loadA0 (by kernel_rfl), _, _, _, _, _, _, _, b1.loadA0 (by kernel_rfl), ?_⟩
  refine Ret.at (impl_ratsOk_c (hr.ext X) (gr.ext X) hok gok) ?_
  rintro v w4 ⟨hv, y4⟩
  subst hv
  refine ⟨_, rfl, ifN (fun hh => absurd hh (by simp)) (fun _ => ?_)⟩
  have D := Ext.drew w4
  have Y := y4.trans D
  have X4 := X.trans Y
  have lY := Y.le
  have b0 := b0.ext Y; have b1 := b1.ext Y; have b2 := b2.ext Y
  have D' := Ext.drew w4.drew
  have X5 := X4.trans D'
  have lD' := D'.le
  have b0' := b0.ext D'; have b1' := b1.ext D'; have b2' := b2.ext D'
  refine ⟨_, _, _, _, _, _, _, fun W hW => (b0.ext hW).loadA0 (by kernel_rfl), _, _, _, _, _, _, _, fun W hW => (b1.ext hW).loadA0 (by kernel_rfl), _, _, _, fun W hW => (b1'.ext hW).loadAt 2 rfl (by kernel_rfl) rfl, _, _, _, rfl, by kernel_rfl, ?_⟩
  refine Calls.mono (impl_Rat_num_n (hr.ext X5) hok (j2.ext X5) (by omega)) ?_
  rintro e w5 ⟨v, he5, vs5, f5, hv, ho5, _, y5⟩
  subst hv
  obtain ⟨s0, sp, sn, sc, sz, rfl, _, _⟩ := open_Signed ho5.reps (enc_code _)
  refine ⟨_, _, _, _, he5, y5, _, _, _, fun W hW => (b0'.ext hW).loadAt 2 rfl (by kernel_rfl) rfl, _, _, _, rfl, by kernel_rfl, ?_⟩
  refine Calls.mono (impl_Rat_num_n (gr.ext (X5.trans y5)) gok (i2.ext (X5.trans y5)) (by omega)) ?_
  rintro e w6 ⟨v, he6, vs6, f6, hv, ho6, _, y6⟩
  subst hv
  obtain ⟨u0, up, un, uc, uz, rfl, _, _⟩ := open_Signed ho6.reps (enc_code _)
  refine ⟨_, _, _, _, he6, y6, ?_⟩
  have t1 := cross_len (N := N1) (E := D2) (by omega) (by omega)
  have t2 := cross_len (N := N2) (E := D1) (by omega) (by omega)
  have t3 := sum_len t1 t2
  refine Ret.at (impl_intAdd_c (ho5.reps.ext y6) ho6.reps (by omega) (by omega)) ?_
  rintro v w7 ⟨p7, n7, c7, hv, o7, y7⟩
  subst hv
  refine ⟨_, _, _, _, rfl, y7, _, _, _, fun W hW => (b0'.ext hW).loadAt 2 rfl (by kernel_rfl) rfl, _, _, _, fun W hW => (b1'.ext hW).loadAt 2 rfl (by kernel_rfl) rfl, ?_⟩
  have Y7 := (y5.trans y6).trans y7
  refine Ret.at (impl_natMul_c (i2.ext (X5.trans Y7)) (j2.ext (X5.trans Y7)) (digs_limbs _) (digs_limbs _) (by omega) (by omega)) ?_
  rintro v w8 ⟨p8, n8, c8, hv, o8, y8⟩
  subst hv
  rw [val_mul] at o8
  have l8 := o8.ints.1
  have lY7 := Y7.le; have ly8 := y8.le
  refine ⟨_, _, _, rfl, ?_⟩
  have hs : Reps w8 [.bool (decide (N1 * (D2 : Int) + N2 * (D1 : Int) < 0)), .slice p7 n7 c7] (enc (N1 * D2 + N2 * D1)) := ⟨rfl, ⟨_, _, _, rfl, o7.ints.ext y8⟩, trivial⟩
  refine Ret.at (impl_reduce_c hs o8.ints (Nat.mul_pos hd1 hd2) (by omega) (by omega)) ?_
  rintro v w99 ⟨vs9, f9, hv, ho9, nd9, y99⟩
  subst hv
  obtain ⟨zb, zp, zn, zc, zz, zp2, zn2, zc2, zz2, rfl, _, _, _⟩ := open_Rat ho9.reps (redR_code _ _)
  obtain ⟨W', st', ld', ow', xx', _, _⟩ := agg_end (t := T_impl_Rat) (((b2'.ext Y7).ext y8).ext y99) (((X5.trans Y7).trans y8).trans y99) (by omega) ho9 (by kernel_rfl) rfl (by omega) (by omega)
  exact ⟨_, _, _, _, _, _, _, _, rfl, W', st', _, _, _, _, _, _, _, ld', _, f9, rfl, ow', nd9, xx'⟩
  
theorem spec_RatAdd_n {w : World} {xs ys : List Value} {N1 N2 : Int} {D1 D2 : Nat} (h : Reps w xs (rmk N1 D1)) (g : Reps w ys (rmk N2 D2)) (hok : ratOk (rmk N1 D1) = true) (gok : ratOk (rmk N2 D2) = true) :
    Ret P n_spec_RatAdd [.agg ⟨xs⟩, .agg ⟨ys⟩] w fun v w' => ∃ vs f, v = .tuple #[.agg ⟨vs⟩, .bool (redOk (N1 * D2 + N2 * D1) (D1 * D2))] ∧ Owns w' w.heap.size vs (redR (N1 * D2 + N2 * D1) (D1 * D2)) f ∧ f.Nodup ∧ Ext w w' := by
  have hr := h; have gr := g
  obtain ⟨p1, n1, c1, q1, m1, d1, rfl, i1, i2, li1, li2, he, hd1⟩ := rmk_open h hok
  obtain ⟨p2, n2, c2, q2, m2, d2, rfl, j1, j2, lj1, lj2, ke, hd2⟩ := rmk_open g gok
  have ei1 := i1.1; have ei2 := i2.1; have ej1 := j1.1; have ej2 := j2.1
  have pN := prod_len (x := N1.natAbs) (y := N2.natAbs) (i := 18) (j := 18) (by omega) (by omega)
  have pD := prod_len (x := D1) (y := D2) (i := 18) (j := 18) (by omega) (by omega)
  refine spec_RatAdd_ret ?_
  unfold spec_RatAdd
  intro r w1 hn1 r1 w2 hn2 r2 w3 hn3
  have e1 := hn1.r_eq; have e2 := hn2.r_eq; have e3 := hn3.r_eq; have z1 := hn1.size; have z2 := hn2.size; have z3 := hn3.size
  have X := (hn1.ext.trans hn2.ext).trans hn3.ext
  have b0 := (hn1.blk.ext hn2.ext).ext hn3.ext; have b1 := hn2.blk.ext hn3.ext; have b2 := hn3.blk
  refine ⟨_, _, _, _, _, _, _, b0.loadA0 (by kernel_rfl), ?_⟩
  refine Ret.at (spec_RatOk_c (hr.ext X) (rmk_code _ _)) ?_
  rintro v w5 ⟨hv, y5⟩
  subst hv
  rw [hok]
  refine ⟨_, rfl, ifN (fun hh => absurd hh (by simp)) (fun _ => ⟨_, _, _, _, _, _, _, (b1.ext y5).loadA0 (by kernel_rfl), ?_⟩)⟩
  refine Ret.at (spec_RatOk_c (gr.ext (X.trans y5)) (rmk_code _ _)) ?_
  rintro v w4 ⟨hv, y4⟩
  subst hv
  rw [gok]
  refine ⟨_, rfl, ifN (fun hh => absurd hh (by simp)) (fun _ => ?_)⟩
  unfold spec_RatAdd_j0
  have D := Ext.drew w4
  have Y := (y5.trans y4).trans D
  have X4 := X.trans Y
  have lY := Y.le
  have b0 := b0.ext Y; have b1 := b1.ext Y; have b2 := b2.ext Y
  refine ⟨_, fun W hW => (b0.ext hW).loadAt 0 rfl (by kernel_rfl) rfl, _, _, _, fun W hW => (b0.ext hW).loadAt 1 rfl (by kernel_rfl) rfl, _, _, _, fun W hW => (b1.ext hW).loadAt 2 rfl (by kernel_rfl) rfl, ?_⟩
  intro ss1 a1 F11
  have S11 := (FlSt.start (o := .cells ⟨[.bool false, .slice none 0 0]⟩ T_impl_Signed (0, 0)) w4.drew).step F11
  refine Ret.at (spec_l02Mul_c (i1.ext (X4.trans F11.ext)) (j2.ext (X4.trans F11.ext)) (digs_limbs _) (digs_limbs _) (by omega) (by omega)) ?_
  rintro v a1b ⟨pa1, na1, ca1, hv, oa1, ya1⟩
  subst hv
  rw [val_digs, val_digs] at oa1
  have la1 := oa1.len
  simp only [List.length_map] at la1
  have ta1 := prod_len (x := N1.natAbs) (y := D2) (i := 18) (j := 18) (by omega) (by omega)
  rw [show N1.natAbs * D2 = ((N1.natAbs : Int) * D2).toNat by rw [← Int.natCast_mul, Int.toNat_natCast]] at ta1
  refine ⟨_, _, _, rfl, ya1, ?_⟩
  intro ss1' a1c F21
  have S21 := (S11.ext ya1).step F21
  refine Ret.at (prod_make (n := N1) (d := D2) (oa1.ints.ext F21.ext) hd2 (by omega)) ?_
  rintro v a1d ⟨ba1, pb1, nb1, cb1, hv, ra1, _, yb1⟩
  subst hv
  refine ⟨_, _, _, _, rfl, ?_⟩
  intro ss1'' a1e r1 F31 G1
  have S31 := (S21.ext yb1).step F31
  obtain ⟨hr1, hbk1⟩ := S31.get G1
  have B1 : Blk a1e r1 T_impl_Signed [.bool false, .slice none 0 0] := hbk1
  obtain ⟨a1f, st1, bb1, ch1, _⟩ := B1.storeA0 (P := P) (t := T_impl_Signed) (xs := [.bool ba1, .slice pb1 nb1 cb1]) (by kernel_rfl) rfl (by simp [Value.oneCell'])
  have Ya1 : Ext w4.drew a1f := S31.1.chg ch1 (by simp; exact hr1)
  have ia1 : Reps a1f [.bool ba1, .slice pb1 nb1 cb1] (enc (N1 * (D2 : Int))) := by
    obtain ⟨h0, ⟨p', n', c', hq, hi⟩, _⟩ := ra1
    cases hq
    exact ⟨h0, ⟨_, _, _, rfl, IntsR.store2 B1 (hi.ext F31.ext) ch1⟩, trivial⟩
  refine ⟨a1f, st1, ?_⟩
  have DA := Ext.drew a1f
  have YA := Ya1.trans DA
  have XA := X4.trans YA
  have c0 := b0.ext YA; have c1 := b1.ext YA; have c2 := b2.ext YA
  have lYA := YA.le
  refine ⟨_, fun W hW => (c1.ext hW).loadAt 0 rfl (by kernel_rfl) rfl, _, _, _, fun W hW => (c1.ext hW).loadAt 1 rfl (by kernel_rfl) rfl, _, _, _, fun W hW => (c0.ext hW).loadAt 2 rfl (by kernel_rfl) rfl, ?_⟩
  intro ss2 a2 F12
  have S12 := (FlSt.start (o := .cells ⟨[.bool false, .slice none 0 0]⟩ T_impl_Signed (0, 0)) a1f.drew).step F12
  refine Ret.at (spec_l02Mul_c (j1.ext (XA.trans F12.ext)) (i2.ext (XA.trans F12.ext)) (digs_limbs _) (digs_limbs _) (by omega) (by omega)) ?_
  rintro v a2b ⟨pa2, na2, ca2, hv, oa2, ya2⟩
  subst hv
  rw [val_digs, val_digs] at oa2
  have la2 := oa2.len
  simp only [List.length_map] at la2
  have ta2 := prod_len (x := N2.natAbs) (y := D1) (i := 18) (j := 18) (by omega) (by omega)
  rw [show N2.natAbs * D1 = ((N2.natAbs : Int) * D1).toNat by rw [← Int.natCast_mul, Int.toNat_natCast]] at ta2
  refine ⟨_, _, _, rfl, ya2, ?_⟩
  intro ss2' a2c F22
  have S22 := (S12.ext ya2).step F22
  refine Ret.at (prod_make (n := N2) (d := D1) (oa2.ints.ext F22.ext) hd1 (by omega)) ?_
  rintro v a2d ⟨ba2, pb2, nb2, cb2, hv, ra2, _, yb2⟩
  subst hv
  refine ⟨_, _, _, _, rfl, ?_⟩
  intro ss2'' a2e r2 F32 G2
  have S32 := (S22.ext yb2).step F32
  obtain ⟨hr2, hbk2⟩ := S32.get G2
  have B2 : Blk a2e r2 T_impl_Signed [.bool false, .slice none 0 0] := hbk2
  obtain ⟨a2f, st2, bb2, ch2, _⟩ := B2.storeA0 (P := P) (t := T_impl_Signed) (xs := [.bool ba2, .slice pb2 nb2 cb2]) (by kernel_rfl) rfl (by simp [Value.oneCell'])
  have Ya2 : Ext a1f.drew a2f := S32.1.chg ch2 (by simp; exact hr2)
  have ia2 : Reps a2f [.bool ba2, .slice pb2 nb2 cb2] (enc (N2 * (D1 : Int))) := by
    obtain ⟨h0, ⟨p', n', c', hq, hi⟩, _⟩ := ra2
    cases hq
    exact ⟨h0, ⟨_, _, _, rfl, IntsR.store2 B2 (hi.ext F32.ext) ch2⟩, trivial⟩
  refine ⟨a2f, st2, ?_⟩
  have XB := XA.trans Ya2
  have lYB := Ya2.le
  have g0 := c0.ext Ya2; have g1 := c1.ext Ya2; have g2 := c2.ext Ya2
  have k1 := (bb1.ext DA).ext Ya2
  have t1 := cross_len (N := N1) (E := D2) (by omega) (by omega)
  have t2 := cross_len (N := N2) (E := D1) (by omega) (by omega)
  have t3 := sum_len t1 t2
  refine ⟨_, _, _, _, k1.loadA0 (by kernel_rfl), _, _, _, _, bb2.loadA0 (by kernel_rfl), ?_⟩
  refine Ret.at (spec_l04Add_c ((ia1.ext DA).ext Ya2) ia2 (by omega) (by omega)) ?_
  rintro v w7 ⟨vs7, f7, hv, ho7, _, y7⟩
  subst hv
  rw [icap_fit (by omega)] at ho7
  have hr7 := ho7.reps
  obtain ⟨u0, up, un, uc, uz, rfl, hu, ui⟩ := open_Signed hr7 (enc_code _)
  simp only [enc, List.cons.injEq, D0.bool.injEq, D0.ints.injEq, and_true] at hu
  obtain ⟨rfl, rfl⟩ := hu
  refine ⟨_, _, _, _, rfl, ?_⟩
  intro r5 w8 hn8
  obtain ⟨w9, st9, hb9, y9⟩ := hn8.fill (P := P) (t := T_impl_Signed) (xs := [.bool (decide (N1 * (D2 : Int) + N2 * (D1 : Int) < 0)), .slice up un uc]) (by simp [Value.oneCell']) (by kernel_rfl) rfl
  refine ⟨w9, st9, ?_⟩
  have D9 := Ext.drew w9
  have Y9 := (y7.trans y9).trans D9
  have X9 := XB.trans Y9
  have lY9 := Y9.le
  have g0 := g0.ext Y9; have g1 := g1.ext Y9; have g2 := g2.ext Y9; have hb9 := hb9.ext D9
  have ui9 := (ui.ext y9).ext D9
  have lui := ui.1
  refine ⟨_, fun W hW => (hb9.ext hW).loadAt 0 rfl (by kernel_rfl) rfl, _, _, _, fun W hW => (hb9.ext hW).loadAt 1 rfl (by kernel_rfl) rfl, _, _, _, fun W hW => (g0.ext hW).loadAt 2 rfl (by kernel_rfl) rfl, _, _, _, fun W hW => (g1.ext hW).loadAt 2 rfl (by kernel_rfl) rfl, ?_⟩
  refine Ret.at (spec_l02Mul_c (i2.ext X9) (j2.ext X9) (digs_limbs _) (digs_limbs _) (by omega) (by omega)) ?_
  rintro v w10 ⟨p10, n10, c10, hv, o10, y10⟩
  subst hv
  rw [val_mul] at o10
  have l10 := o10.ints.1
  have ly10 := y10.le
  refine ⟨_, _, _, rfl, y10, ?_⟩
  refine Ret.at (spec_l05Low_c (n := N1 * D2 + N2 * D1) (ui9.ext y10) o10.ints (fun _ => rfl) (Nat.mul_pos hd1 hd2) (by omega) (by omega)) ?_
  rintro v w99 ⟨vs9, f9, hv, ho9, nd9, y99⟩
  subst hv
  obtain ⟨zb, zp, zn, zc, zz, zp2, zn2, zc2, zz2, rfl, _, _, _⟩ := open_Rat ho9.reps (redR_code _ _)
  obtain ⟨W', st', ld', ow', xx', _, _⟩ := agg_end (t := T_impl_Rat) ((g2.ext y10).ext y99) ((X9.trans y10).trans y99) (by omega) ho9 (by kernel_rfl) rfl (by omega) (by omega)
  exact ⟨_, _, _, _, _, _, _, _, rfl, W', st', _, _, _, _, _, _, _, ld', _, f9, rfl, ow', nd9, xx'⟩
  
theorem impl_RatSub_n {w : World} {xs ys : List Value} {N1 N2 : Int} {D1 D2 : Nat} (h : Reps w xs (rmk N1 D1)) (g : Reps w ys (rmk N2 D2)) (hok : ratOk (rmk N1 D1) = true) (gok : ratOk (rmk N2 D2) = true) :
    Ret P n_impl_RatSub [.agg ⟨xs⟩, .agg ⟨ys⟩] w fun v w' => ∃ vs f, v = .tuple #[.agg ⟨vs⟩, .bool (redOk (N1 * D2 + -N2 * D1) (D1 * D2))] ∧ Owns w' w.heap.size vs (redR (N1 * D2 + -N2 * D1) (D1 * D2)) f ∧ f.Nodup ∧ Ext w w' := by
  have hr := h; have gr := g
  obtain ⟨p1, n1, c1, q1, m1, d1, rfl, i1, i2, li1, li2, he, hd1⟩ := rmk_open h hok
  obtain ⟨p2, n2, c2, q2, m2, d2, rfl, j1, j2, lj1, lj2, ke, hd2⟩ := rmk_open g gok
  have ei1 := i1.1; have ei2 := i2.1; have ej1 := j1.1; have ej2 := j2.1
  have pN := prod_len (x := N1.natAbs) (y := N2.natAbs) (i := 18) (j := 18) (by omega) (by omega)
  have pD := prod_len (x := D1) (y := D2) (i := 18) (j := 18) (by omega) (by omega)
  refine impl_RatSub_ret ?_
  unfold impl_RatSub
  intro r w1 hn1 r1 w2 hn2 r2 w3 hn3
  have e1 := hn1.r_eq; have e2 := hn2.r_eq; have e3 := hn3.r_eq; have z1 := hn1.size; have z2 := hn2.size; have z3 := hn3.size
  have X := (hn1.ext.trans hn2.ext).trans hn3.ext
  have b0 := (hn1.blk.ext hn2.ext).ext hn3.ext; have b1 := hn2.blk.ext hn3.ext; have b2 := hn3.blk
  refine ⟨_, _, _, _, _, _, _, b0.loadA0 (by kernel_rfl), _, _, _, _, _, _, _, b1.loadA0 (by kernel_rfl), ?_⟩
  refine Ret.at (impl_ratsOk_c (hr.ext X) (gr.ext X) hok gok) ?_
  rintro v w4 ⟨hv, y4⟩
  subst hv
  refine ⟨_, rfl, ifN (fun hh => absurd hh (by simp)) (fun _ => ?_)⟩
  have D := Ext.drew w4
  have Y := y4.trans D
  have X4 := X.trans Y
  have lY := Y.le
  have b0 := b0.ext Y; have b1 := b1.ext Y; have b2 := b2.ext Y
  refine ⟨_, _, _, _, _, _, _, fun W hW => (b0.ext hW).loadA0 (by kernel_rfl), _, _, _, _, _, _, _, fun W hW => (b1.ext hW).loadA0 (by kernel_rfl), ?_⟩
  refine Ret.at (impl_ratNeg_c (gr.ext X4) (rmk_code _ _) gok) ?_
  rintro v w5 ⟨vs5, f5, hv, ho5, _, y5⟩
  subst hv
  rw [ratNum_rmk, ratDen_rmk] at ho5
  have hr5 := ho5.reps
  obtain ⟨s0, sp, sn, sc, sz, sp2, sn2, sc2, sz2, rfl, _, _, _⟩ := open_Rat hr5 (rmk_code _ _)
  have l5 := y5.le
  refine ⟨_, _, _, _, _, _, _, rfl, y5, ?_⟩
  refine Ret.at (impl_RatAdd_n (hr.ext (X4.trans y5)) hr5 hok (ratOk_neg gok)) ?_
  rintro v w99 ⟨vs9, f9, hv, ho9, nd9, y99⟩
  subst hv
  obtain ⟨zb, zp, zn, zc, zz, zp2, zn2, zc2, zz2, rfl, _, _, _⟩ := open_Rat ho9.reps (redR_code _ _)
  obtain ⟨W', st', ld', ow', xx', _, _⟩ := agg_end (t := T_impl_Rat) ((b2.ext y5).ext y99) ((X4.trans y5).trans y99) (by omega) ho9 (by kernel_rfl) rfl (by omega) (by omega)
  exact ⟨_, _, _, _, _, _, _, _, rfl, W', st', _, _, _, _, _, _, _, ld', _, f9, rfl, ow', nd9, xx'⟩
  
theorem spec_RatSub_n {w : World} {xs ys : List Value} {N1 N2 : Int} {D1 D2 : Nat} (h : Reps w xs (rmk N1 D1)) (g : Reps w ys (rmk N2 D2)) (hok : ratOk (rmk N1 D1) = true) (gok : ratOk (rmk N2 D2) = true) :
    Ret P n_spec_RatSub [.agg ⟨xs⟩, .agg ⟨ys⟩] w fun v w' => ∃ vs f, v = .tuple #[.agg ⟨vs⟩, .bool (redOk (N1 * D2 + -N2 * D1) (D1 * D2))] ∧ Owns w' w.heap.size vs (redR (N1 * D2 + -N2 * D1) (D1 * D2)) f ∧ f.Nodup ∧ Ext w w' := by
  have hr := h; have gr := g
  obtain ⟨p1, n1, c1, q1, m1, d1, rfl, i1, i2, li1, li2, he, hd1⟩ := rmk_open h hok
  obtain ⟨p2, n2, c2, q2, m2, d2, rfl, j1, j2, lj1, lj2, ke, hd2⟩ := rmk_open g gok
  have ei1 := i1.1; have ei2 := i2.1; have ej1 := j1.1; have ej2 := j2.1
  have pN := prod_len (x := N1.natAbs) (y := N2.natAbs) (i := 18) (j := 18) (by omega) (by omega)
  have pD := prod_len (x := D1) (y := D2) (i := 18) (j := 18) (by omega) (by omega)
  refine spec_RatSub_ret ?_
  unfold spec_RatSub
  intro r w1 hn1 r1 w2 hn2 r2 w3 hn3
  have e1 := hn1.r_eq; have e2 := hn2.r_eq; have e3 := hn3.r_eq; have z1 := hn1.size; have z2 := hn2.size; have z3 := hn3.size
  have X := (hn1.ext.trans hn2.ext).trans hn3.ext
  have b0 := (hn1.blk.ext hn2.ext).ext hn3.ext; have b1 := hn2.blk.ext hn3.ext; have b2 := hn3.blk
  refine ⟨_, _, _, _, _, _, _, b1.loadA0 (by kernel_rfl), ?_⟩
  refine Ret.at (spec_RatNeg_c (gr.ext X) (rmk_code _ _) gok) ?_
  rintro v w5 ⟨vs5, f5, hv, ho5, y5⟩
  subst hv
  rw [ratNum_rmk, ratDen_rmk] at ho5
  have hr5 := ho5.reps
  obtain ⟨s0, sp, sn, sc, sz, sp2, sn2, sc2, sz2, rfl, _, _, _⟩ := open_Rat hr5 (rmk_code _ _)
  refine ⟨_, _, _, _, _, _, _, _, rfl, ?_⟩
  intro r6 w6 hn6
  obtain ⟨w7, st7, hb7, y7⟩ := hn6.fill (P := P) (t := T_impl_Rat) (xs := [.bool s0, .slice sp sn sc, .slice sp2 sn2 sc2]) (by simp [Value.oneCell']) (by kernel_rfl) rfl
  refine ⟨w7, st7, ifN (fun hh => absurd hh (by simp)) (fun _ => ?_)⟩
  have Y := y5.trans y7
  have X4 := X.trans Y
  have lY := Y.le
  have b0 := b0.ext Y; have b1 := b1.ext Y; have b2 := b2.ext Y
  refine ⟨_, _, _, _, _, _, _, b0.loadA0 (by kernel_rfl), _, _, _, _, _, _, _, hb7.loadA0 (by kernel_rfl), ?_⟩
  refine Ret.at (spec_RatAdd_n (hr.ext X4) (hr5.ext y7) hok (ratOk_neg gok)) ?_
  rintro v w99 ⟨vs9, f9, hv, ho9, nd9, y99⟩
  subst hv
  obtain ⟨zb, zp, zn, zc, zz, zp2, zn2, zc2, zz2, rfl, _, _, _⟩ := open_Rat ho9.reps (redR_code _ _)
  obtain ⟨W', st', ld', ow', xx', _, _⟩ := agg_end (t := T_impl_Rat) ((b2).ext y99) ((X4).trans y99) (by omega) ho9 (by kernel_rfl) rfl (by omega) (by omega)
  exact ⟨_, _, _, _, _, _, _, _, rfl, W', st', _, _, _, _, _, _, _, ld', _, f9, rfl, ow', nd9, xx'⟩
  
end Go.Proofs.YtfehpaekbbmkcaaGreatDoor

namespace Go.Proofs.YtfehpaekbbmkcaaGreatDoor
open Go Go.Proofs.YtfehpaekbbmkcaaGreatDoor.Sx
set_option linter.unusedVariables false
set_option linter.unusedSimpArgs false
theorem spec_l02Add_k {w : World} {p q : Option Addr} {n c m d : Nat} {a b : List Int} (h : IntsR w p n c a) (k : IntsR w q m d b) (hca : Canon a) (hcb : Canon b) (hn : n ≤ 10000000) (hm : m ≤ 10000000) :
    Ret P n_spec_l02Add [.slice p n c, .slice q m d] w fun v w' => ∃ p' n' c' o, v = .slice p' n' c' ∧ IntsR w' p' n' c' o ∧ Canon o ∧ n' ≤ n + m + 1 ∧ val o = val a + val b ∧ Ext w w' := by
  refine spec_l02Add_ret ?_
  unfold spec_l02Add
  have hla := h.1; have hlb := k.1
  have ha := hca.1; have hb := hcb.1
  intro r w1 hn1
  let Inv : Option Addr → Nat → Nat → Int → Int → World → Prop := fun p on c carry i wr => ∃ (o : List Int), i = on ∧ on ≤ n + m + 1 ∧ (0 < carry → on ≤ n + m) ∧ Own wr w.heap.size T_int 1 p on c (o.map (Value.int .i64)) ∧ Ext w wr ∧ Limbs o ∧ o.length = on ∧ 0 ≤ carry ∧ carry ≤ 1 ∧ (n ≤ on ∧ m ≤ on ∧ carry = 0 ∧ 0 < on → o.getLast? ≠ some 0) ∧ val o + 1000000000 ^ on * carry = val (a.take on) + val (b.take on)
  refine ⟨Inv, fun _ _ _ _ i _ => n + m + 2 - i.toNat, ⟨[], rfl, by omega, by omega, Own.fresh hn1, hn1.ext, Limbs.nil, rfl, by omega, by omega, fun hh => absurd hh.2.2.2 (by omega), by simp [val]⟩, ?_⟩
  intro junk wr op j oc carry i ⟨o, hi, hjn, hcj, hown, hx, hlo, hol, hc0, hc1, hcan, hv⟩
  subst hi
  have A := ha.getD j; have B := hb.getD j
  have ab : (j : Int) < n ∨ a.getD j 0 = 0 := by
    by_cases e : j < n
    · left; omega
    · right; exact getD_beyond (by omega)
  have bb : (j : Int) < m ∨ b.getD j 0 = 0 := by
    by_cases e : j < m
    · left; omega
    · right; exact getD_beyond (by omega)
  have J2 : ∀ t, t = carry + a.getD j 0 + b.getD j 0 → (j < n ∨ j < m ∨ 0 < carry) → spec_l02Add_j2 wr Inv (fun _ _ _ _ i _ => n + m + 2 - i.toNat) op j oc carry j t wr fun v w' => ∃ p' n' c' o, v = .slice p' n' c' ∧ IntsR w' p' n' c' o ∧ Canon o ∧ n' ≤ n + m + 1 ∧ val o = val a + val b ∧ Ext w w' := by
    intro t ht hlt
    unfold spec_l02Add_j2
    refine ⟨by decide, _, rfl, fun r1 w2 hn2 => ?_⟩
    rw [tmod_limb (by omega)] at hn2
    obtain ⟨p', c', w3, g1, g2, g3⟩ := Own.push hown hx.le hn2 (by omega)
    refine ⟨_, _, _, _, g1, by decide, ?_⟩
    rw [tdiv_limb (by omega)]
    have hcar : 0 < t / 1000000000 → j < n ∨ j < m := by
      intro h0
      by_cases e : j < n
      · exact .inl e
      · by_cases e2 : j < m
        · exact .inr e2
        · have e3 := ab.resolve_left (by omega); have e4 := bb.resolve_left (by omega)
          rw [e3, e4] at ht; omega
    have hnew : n ≤ j + 1 ∧ m ≤ j + 1 ∧ t / 1000000000 = 0 ∧ 0 < j + 1 → (o ++ [t % 1000000000]).getLast? ≠ some 0 := by
      intro hh
      rw [List.getLast?_concat]
      intro e
      have e := Option.some.inj e
      have : 1 ≤ t := by
        rcases hlt with h1 | h1 | h1
        · have := canon_top hca (show a.length = j + 1 by omega)
          omega
        · have := canon_top hcb (show b.length = j + 1 by omega)
          omega
        · omega
      omega
    refine exW ⟨by omega, by omega⟩ (exW ⟨by omega, by omega⟩ ⟨⟨o ++ [t % 1000000000], by omega, by rcases hlt with h | h | h <;> omega, fun h0 => by rcases hcar h0 with h | h <;> omega, g2, g3 w hx (Nat.le_refl _), hlo.snoc (limb_mod t), by simp [hol], by omega, by omega, hnew, add_step hol hv ht⟩, ?_⟩)
    show n + m + 2 - ((j : Int) + 1).toNat < n + m + 2 - (j : Int).toNat
    rcases hlt with h | h | h <;> omega
  have J1 : ∀ t, t = carry + a.getD j 0 → (j < n ∨ j < m ∨ 0 < carry) → spec_l02Add_j1 q m wr Inv (fun _ _ _ _ i _ => n + m + 2 - i.toNat) op j oc carry j t wr fun v w' => ∃ p' n' c' o, v = .slice p' n' c' ∧ IntsR w' p' n' c' o ∧ Canon o ∧ n' ≤ n + m + 1 ∧ val o = val a + val b ∧ Ext w w' := by
    intro t ht hlt
    unfold spec_l02Add_j1
    refine ifD (fun hlm => ?_) (fun hge => J2 _ (by rw [bb.resolve_left hge]; omega) hlt)
    obtain ⟨ad, rfl, hl⟩ := ints_at (k.ext hx) (i := (j : Int)) (by omega) hlm
    exact ⟨⟨by omega, by omega⟩, _, hl, exW ⟨by simp only [Int.toNat_natCast]; omega, by simp only [Int.toNat_natCast]; omega⟩ (J2 _ (by simp only [Int.toNat_natCast]; omega) hlt)⟩
  have J0 : (j < n ∨ j < m ∨ 0 < carry) → spec_l02Add_j0 p n q m wr Inv (fun _ _ _ _ i _ => n + m + 2 - i.toNat) op j oc carry j wr fun v w' => ∃ p' n' c' o, v = .slice p' n' c' ∧ IntsR w' p' n' c' o ∧ Canon o ∧ n' ≤ n + m + 1 ∧ val o = val a + val b ∧ Ext w w' := by
    intro hlt
    unfold spec_l02Add_j0
    refine ifD (fun hln => ?_) (fun hge => J1 _ (by rw [ab.resolve_left hge]; omega) hlt)
    obtain ⟨ad, hp, hl⟩ := ints_at (h.ext hx) (i := (j : Int)) (by omega) hln
    subst hp
    exact ⟨⟨by omega, by omega⟩, _, hl, exW ⟨by simp only [Int.toNat_natCast]; omega, by simp only [Int.toNat_natCast]; omega⟩ (J1 _ (by simp only [Int.toNat_natCast]) hlt)⟩
  have fin : ¬ (j : Int) < n → ¬ (j : Int) < m → ¬ 0 < carry → ∃ p' n' c' o, Value.slice op j oc = .slice p' n' c' ∧ IntsR wr p' n' c' o ∧ Canon o ∧ n' ≤ n + m + 1 ∧ val o = val a + val b ∧ Ext w wr := by
    intro h1 h2 h3
    have hc : carry = 0 := by omega
    subst hc
    rw [List.take_of_length_le (by omega), List.take_of_length_le (by omega)] at hv
    have hlast : o.getLast? ≠ some 0 := by
      rcases Nat.eq_zero_or_pos j with hj0 | hj0
      · have : o = [] := List.eq_nil_of_length_eq_zero (by omega)
        rw [this]; simp
      · exact hcan ⟨by omega, by omega, rfl, hj0⟩
    exact ⟨_, _, _, o, rfl, hown.ints, ⟨hlo, hlast⟩, hjn, by omega, hx⟩
  exact ifD (fun h1 => ifT (ifT (J0 (.inl (by omega))))) (fun h1 => ifD (fun h2 => ifT (J0 (.inr (.inl (by omega))))) (fun h2 => ifD (fun h3 => J0 (.inr (.inr h3))) (fun h3 => fin h1 h2 h3)))
theorem spec_l02Add_n {w : World} {p q : Option Addr} {n c m d : Nat} {x y : Nat} (h : IntsR w p n c (digs x)) (k : IntsR w q m d (digs y)) (hn : n ≤ 1000) (hm : m ≤ 1000) :
    Ret P n_spec_l02Add [.slice p n c, .slice q m d] w fun v w' => ∃ p' n' c', v = .slice p' n' c' ∧ IntsR w' p' n' c' (digs (x + y)) ∧ Ext w w' := by
  refine (spec_l02Add_k h k (digs_canon x) (digs_canon y) (by omega) (by omega)).mono ?_
  rintro v w' ⟨p', n', c', o, hv, hi, hc, _, hval, y'⟩
  have e : o = digs (x + y) := by
    rw [val_digs, val_digs] at hval
    refine canon_inj hc (digs_canon _) ?_
    rw [hval, val_digs, Int.natCast_add]
  subst e
  exact ⟨p', n', c', hv, hi, y'⟩
theorem digs_one_r {W : World} {r : Nat} (hb : Blk W r T_int [.int .i64 1]) : IntsR W (some ⟨r, 0, none⟩) 1 1 (digs 1) := by
  rw [digs_one]
  exact ⟨rfl, Nat.le_refl _, by omega, fun _ => ⟨_, 0, rfl, hb.seg⟩⟩
theorem val_add' (m k : Nat) : (val (digs m) + val (digs k)).toNat = m + k := by rw [val_digs, val_digs, ← Int.natCast_add, Int.toNat_natCast]
theorem odd_even (q : Nat) : (!(decide (q % 2 = 0))) = decide (q % 2 = 1) := by
  rcases Nat.mod_two_eq_zero_or_one q with h | h <;> simp [h]
theorem impl_NatEven_n {w : World} {p : Option Addr} {n c q : Nat} (h : IntsR w p n c (digs q)) (hn : n ≤ 50) :
    Ret P n_impl_NatEven [.slice p n c] w fun v w' => v = .bool (decide (q % 2 = 0)) ∧ Ext w w' := by
  have hl := h.1
  refine impl_NatEven_ret ?_
  unfold impl_NatEven
  refine Ret.at (impl_NatOk_c h) ?_
  rintro v w1 ⟨hv, y1⟩
  subst hv
  rw [natOk_spec.2 ⟨digs_canon q, by omega⟩]
  refine ⟨_, rfl, ifT (ifD (fun h0 => ⟨?_, y1⟩) (fun h0 => ?_))⟩
  · have : q % 2 = 0 := even_head.1 (.inl (by omega))
    rw [decide_eq_true this]
  · obtain ⟨ad, hp', hld⟩ := (h.ext y1).at (P := P) (t := T_int) (by kernel_rfl) (k := 0) (by omega)
    subst hp'
    have hx := digs_limbs q _ (List.getElem_mem (show 0 < (digs q).length by omega))
    refine ⟨⟨by omega, by omega⟩, _, by simpa using hld, by decide, _, rfl, ?_, y1⟩
    rw [Int.tmod_eq_emod_of_nonneg hx.1]
    have e : (digs q)[0]'(by omega) = (digs q).getD 0 0 := by rw [List.getD_eq_getElem?_getD, List.getElem?_eq_getElem (by omega)]; rfl
    rw [e]
    exact congrArg Value.bool (decide_eq_decide.2 ⟨fun hh => even_head.1 (.inr hh), fun hh => (even_head.2 hh).resolve_left (by omega)⟩)
theorem spec_NatEven_n {w : World} {p : Option Addr} {n c q : Nat} (h : IntsR w p n c (digs q)) (hn : n ≤ 50) :
    Ret P n_spec_NatEven [.slice p n c] w fun v w' => v = .bool (decide (q % 2 = 0)) ∧ Ext w w' := by
  have hl := h.1
  refine spec_NatEven_ret ?_
  unfold spec_NatEven
  refine Ret.at (spec_NatOk_c h) ?_
  rintro v w1 ⟨hv, y1⟩
  subst hv
  rw [natOk_spec.2 ⟨digs_canon q, by omega⟩]
  refine ⟨_, rfl, ifT (ifD (fun h0 => ⟨?_, y1⟩) (fun h0 => ?_))⟩
  · have : q % 2 = 0 := even_head.1 (.inl (by omega))
    rw [decide_eq_true this]
  · obtain ⟨ad, hp', hld⟩ := (h.ext y1).at (P := P) (t := T_int) (by kernel_rfl) (k := 0) (by omega)
    subst hp'
    have hx := digs_limbs q _ (List.getElem_mem (show 0 < (digs q).length by omega))
    refine ⟨⟨by omega, by omega⟩, _, by simpa using hld, by decide, _, rfl, ?_, y1⟩
    rw [Int.tmod_eq_emod_of_nonneg hx.1]
    have e : (digs q)[0]'(by omega) = (digs q).getD 0 0 := by rw [List.getD_eq_getElem?_getD, List.getElem?_eq_getElem (by omega)]; rfl
    rw [e]
    exact congrArg Value.bool (decide_eq_decide.2 ⟨fun hh => even_head.1 (.inr hh), fun hh => (even_head.2 hh).resolve_left (by omega)⟩)
theorem impl_roundModes_1_n (neg : Bool) (half : Int) (odd : Bool) (w : World) : Ret P n_impl_roundModes_1 [.bool neg, .int .i64 half, .bool odd] w fun v w' => v = .bool (modeAway 0 neg half odd) ∧ w' = w := by
  refine impl_roundModes_1_ret ?_
  unfold impl_roundModes_1
  exact ⟨rfl, rfl⟩
theorem impl_roundModes_2_n (neg : Bool) (half : Int) (odd : Bool) (w : World) : Ret P n_impl_roundModes_2 [.bool neg, .int .i64 half, .bool odd] w fun v w' => v = .bool (modeAway 1 neg half odd) ∧ w' = w := by
  refine impl_roundModes_2_ret ?_
  unfold impl_roundModes_2
  exact ⟨rfl, rfl⟩
theorem impl_roundModes_3_n (neg : Bool) (half : Int) (odd : Bool) (w : World) : Ret P n_impl_roundModes_3 [.bool neg, .int .i64 half, .bool odd] w fun v w' => v = .bool (modeAway 2 neg half odd) ∧ w' = w := by
  refine impl_roundModes_3_ret ?_
  unfold impl_roundModes_3
  exact ⟨rfl, rfl⟩
theorem impl_roundModes_4_n (neg : Bool) (half : Int) (odd : Bool) (w : World) : Ret P n_impl_roundModes_4 [.bool neg, .int .i64 half, .bool odd] w fun v w' => v = .bool (modeAway 3 neg half odd) ∧ w' = w := by
  refine impl_roundModes_4_ret ?_
  unfold impl_roundModes_4
  exact ⟨rfl, rfl⟩
theorem impl_roundModes_5_n (neg : Bool) (half : Int) (odd : Bool) (w : World) : Ret P n_impl_roundModes_5 [.bool neg, .int .i64 half, .bool odd] w fun v w' => v = .bool (modeAway 4 neg half odd) ∧ w' = w := by
  refine impl_roundModes_5_ret ?_
  unfold impl_roundModes_5
  exact ⟨rfl, rfl⟩
theorem impl_roundModes_6_n (neg : Bool) (half : Int) (odd : Bool) (w : World) : Ret P n_impl_roundModes_6 [.bool neg, .int .i64 half, .bool odd] w fun v w' => v = .bool (modeAway 5 neg half odd) ∧ w' = w := by
  refine impl_roundModes_6_ret ?_
  unfold impl_roundModes_6
  exact ⟨rfl, rfl⟩
theorem impl_roundModes_7_n (neg : Bool) (half : Int) (odd : Bool) (w : World) : Ret P n_impl_roundModes_7 [.bool neg, .int .i64 half, .bool odd] w fun v w' => v = .bool (modeAway 6 neg half odd) ∧ w' = w := by
  refine impl_roundModes_7_ret ?_
  unfold impl_roundModes_7
  refine ifD (fun h => ⟨?_, rfl⟩) (fun h => ifD (fun h0 => ⟨?_, rfl⟩) (fun h0 => ⟨?_, rfl⟩))
  · simp [modeAway, h]
  · simp [modeAway, h0]
  · simp [modeAway, h, h0]
def modeCells : List Value := [.string (S [100, 111, 119, 110]), .func (.func n_impl_roundModes_1) #[] #[], .string (S [117, 112]), .func (.func n_impl_roundModes_2) #[] #[], .string (S [102, 108, 111, 111, 114]), .func (.func n_impl_roundModes_3) #[] #[], .string (S [99, 101, 105, 108]), .func (.func n_impl_roundModes_4) #[] #[], .string (S [104, 97, 108, 102, 100, 111, 119, 110]), .func (.func n_impl_roundModes_5) #[] #[], .string (S [104, 97, 108, 102, 117, 112]), .func (.func n_impl_roundModes_6) #[] #[], .string (S [104, 97, 108, 102, 101, 118, 101, 110]), .func (.func n_impl_roundModes_7) #[] #[]]
theorem impl_roundModes_n (w : World) : Ret P n_impl_roundModes [] w fun v w' => v = .agg ⟨modeCells⟩ ∧ Ext w w' := by
  refine impl_roundModes_ret ?_
  unfold impl_roundModes
  intro r w1 hn1
  obtain ⟨w2, st, hb2, y2⟩ := hn1.fill (P := P) (t := T_7_impl_roundMode) (xs := modeCells) (by simp [modeCells, Value.oneCell']) (by kernel_rfl) rfl
  exact ⟨w2, st, _, _, _, _, _, _, _, _, _, _, _, _, _, _, hb2.loadA0 (by kernel_rfl), rfl, y2⟩
theorem mode_call {m : Int} (h0 : 0 ≤ m) (h1 : m ≤ 6) (neg : Bool) (half : Int) (odd : Bool) : ∃ fl : Value, (∀ K : Value → Prop, K fl → indexS P T_7_impl_roundMode (.agg ⟨modeCells⟩) (.int .i64 m) fun el => fieldS P T_impl_roundMode el 1 fun f => K f) ∧
    ∀ (w : World) (Q : Ending → World → Prop), Q (.returned (.bool (modeAway m neg half odd))) w → CallW P fl [.bool neg, .int .i64 half, .bool odd] w Q := by
  have hm : m = 0 ∨ m = 1 ∨ m = 2 ∨ m = 3 ∨ m = 4 ∨ m = 5 ∨ m = 6 := by omega
  rcases hm with rfl | rfl | rfl | rfl | rfl | rfl | rfl
  · refine ⟨.func (.func n_impl_roundModes_1) #[] #[], fun K hK => ?_, fun w Q hQ => ?_⟩
    · have e : (indexS P T_7_impl_roundMode (.agg ⟨modeCells⟩) (.int .i64 0) fun el => fieldS P T_impl_roundMode el 1 fun f => K f) = (((0 : Int) ≤ 0 ∧ (0 : Int) < (7 : Nat)) ∧ ∃ v, (Value.agg #[modeCells.getD 0 .nilFunc, modeCells.getD 1 .nilFunc] = v) ∧ fieldS P T_impl_roundMode v 1 fun f => K f) := by kernel_rfl
      rw [e]
      refine ⟨⟨by omega, by omega⟩, _, rfl, ?_⟩
      have e2 : (fieldS P T_impl_roundMode (Value.agg #[modeCells.getD 0 .nilFunc, modeCells.getD 1 .nilFunc]) 1 fun f => K f) = K (modeCells.getD 1 .nilFunc) := by kernel_rfl
      rw [e2]
      exact hK
    · refine ⟨_, [], [], rfl, by kernel_rfl, Calls.mono (impl_roundModes_1_n neg half odd w) ?_⟩
      rintro e w' ⟨v, he, hv, hw⟩
      subst he; subst hv; subst hw
      exact hQ
  · refine ⟨.func (.func n_impl_roundModes_2) #[] #[], fun K hK => ?_, fun w Q hQ => ?_⟩
    · have e : (indexS P T_7_impl_roundMode (.agg ⟨modeCells⟩) (.int .i64 1) fun el => fieldS P T_impl_roundMode el 1 fun f => K f) = (((0 : Int) ≤ 1 ∧ (1 : Int) < (7 : Nat)) ∧ ∃ v, (Value.agg #[modeCells.getD 2 .nilFunc, modeCells.getD 3 .nilFunc] = v) ∧ fieldS P T_impl_roundMode v 1 fun f => K f) := by kernel_rfl
      rw [e]
      refine ⟨⟨by omega, by omega⟩, _, rfl, ?_⟩
      have e2 : (fieldS P T_impl_roundMode (Value.agg #[modeCells.getD 2 .nilFunc, modeCells.getD 3 .nilFunc]) 1 fun f => K f) = K (modeCells.getD 3 .nilFunc) := by kernel_rfl
      rw [e2]
      exact hK
    · refine ⟨_, [], [], rfl, by kernel_rfl, Calls.mono (impl_roundModes_2_n neg half odd w) ?_⟩
      rintro e w' ⟨v, he, hv, hw⟩
      subst he; subst hv; subst hw
      exact hQ
  · refine ⟨.func (.func n_impl_roundModes_3) #[] #[], fun K hK => ?_, fun w Q hQ => ?_⟩
    · have e : (indexS P T_7_impl_roundMode (.agg ⟨modeCells⟩) (.int .i64 2) fun el => fieldS P T_impl_roundMode el 1 fun f => K f) = (((0 : Int) ≤ 2 ∧ (2 : Int) < (7 : Nat)) ∧ ∃ v, (Value.agg #[modeCells.getD 4 .nilFunc, modeCells.getD 5 .nilFunc] = v) ∧ fieldS P T_impl_roundMode v 1 fun f => K f) := by kernel_rfl
      rw [e]
      refine ⟨⟨by omega, by omega⟩, _, rfl, ?_⟩
      have e2 : (fieldS P T_impl_roundMode (Value.agg #[modeCells.getD 4 .nilFunc, modeCells.getD 5 .nilFunc]) 1 fun f => K f) = K (modeCells.getD 5 .nilFunc) := by kernel_rfl
      rw [e2]
      exact hK
    · refine ⟨_, [], [], rfl, by kernel_rfl, Calls.mono (impl_roundModes_3_n neg half odd w) ?_⟩
      rintro e w' ⟨v, he, hv, hw⟩
      subst he; subst hv; subst hw
      exact hQ
  · refine ⟨.func (.func n_impl_roundModes_4) #[] #[], fun K hK => ?_, fun w Q hQ => ?_⟩
    · have e : (indexS P T_7_impl_roundMode (.agg ⟨modeCells⟩) (.int .i64 3) fun el => fieldS P T_impl_roundMode el 1 fun f => K f) = (((0 : Int) ≤ 3 ∧ (3 : Int) < (7 : Nat)) ∧ ∃ v, (Value.agg #[modeCells.getD 6 .nilFunc, modeCells.getD 7 .nilFunc] = v) ∧ fieldS P T_impl_roundMode v 1 fun f => K f) := by kernel_rfl
      rw [e]
      refine ⟨⟨by omega, by omega⟩, _, rfl, ?_⟩
      have e2 : (fieldS P T_impl_roundMode (Value.agg #[modeCells.getD 6 .nilFunc, modeCells.getD 7 .nilFunc]) 1 fun f => K f) = K (modeCells.getD 7 .nilFunc) := by kernel_rfl
      rw [e2]
      exact hK
    · refine ⟨_, [], [], rfl, by kernel_rfl, Calls.mono (impl_roundModes_4_n neg half odd w) ?_⟩
      rintro e w' ⟨v, he, hv, hw⟩
      subst he; subst hv; subst hw
      exact hQ
  · refine ⟨.func (.func n_impl_roundModes_5) #[] #[], fun K hK => ?_, fun w Q hQ => ?_⟩
    · have e : (indexS P T_7_impl_roundMode (.agg ⟨modeCells⟩) (.int .i64 4) fun el => fieldS P T_impl_roundMode el 1 fun f => K f) = (((0 : Int) ≤ 4 ∧ (4 : Int) < (7 : Nat)) ∧ ∃ v, (Value.agg #[modeCells.getD 8 .nilFunc, modeCells.getD 9 .nilFunc] = v) ∧ fieldS P T_impl_roundMode v 1 fun f => K f) := by kernel_rfl
      rw [e]
      refine ⟨⟨by omega, by omega⟩, _, rfl, ?_⟩
      have e2 : (fieldS P T_impl_roundMode (Value.agg #[modeCells.getD 8 .nilFunc, modeCells.getD 9 .nilFunc]) 1 fun f => K f) = K (modeCells.getD 9 .nilFunc) := by kernel_rfl
      rw [e2]
      exact hK
    · refine ⟨_, [], [], rfl, by kernel_rfl, Calls.mono (impl_roundModes_5_n neg half odd w) ?_⟩
      rintro e w' ⟨v, he, hv, hw⟩
      subst he; subst hv; subst hw
      exact hQ
  · refine ⟨.func (.func n_impl_roundModes_6) #[] #[], fun K hK => ?_, fun w Q hQ => ?_⟩
    · have e : (indexS P T_7_impl_roundMode (.agg ⟨modeCells⟩) (.int .i64 5) fun el => fieldS P T_impl_roundMode el 1 fun f => K f) = (((0 : Int) ≤ 5 ∧ (5 : Int) < (7 : Nat)) ∧ ∃ v, (Value.agg #[modeCells.getD 10 .nilFunc, modeCells.getD 11 .nilFunc] = v) ∧ fieldS P T_impl_roundMode v 1 fun f => K f) := by kernel_rfl
      rw [e]
      refine ⟨⟨by omega, by omega⟩, _, rfl, ?_⟩
      have e2 : (fieldS P T_impl_roundMode (Value.agg #[modeCells.getD 10 .nilFunc, modeCells.getD 11 .nilFunc]) 1 fun f => K f) = K (modeCells.getD 11 .nilFunc) := by kernel_rfl
      rw [e2]
      exact hK
    · refine ⟨_, [], [], rfl, by kernel_rfl, Calls.mono (impl_roundModes_6_n neg half odd w) ?_⟩
      rintro e w' ⟨v, he, hv, hw⟩
      subst he; subst hv; subst hw
      exact hQ
  · refine ⟨.func (.func n_impl_roundModes_7) #[] #[], fun K hK => ?_, fun w Q hQ => ?_⟩
    · have e : (indexS P T_7_impl_roundMode (.agg ⟨modeCells⟩) (.int .i64 6) fun el => fieldS P T_impl_roundMode el 1 fun f => K f) = (((0 : Int) ≤ 6 ∧ (6 : Int) < (7 : Nat)) ∧ ∃ v, (Value.agg #[modeCells.getD 12 .nilFunc, modeCells.getD 13 .nilFunc] = v) ∧ fieldS P T_impl_roundMode v 1 fun f => K f) := by kernel_rfl
      rw [e]
      refine ⟨⟨by omega, by omega⟩, _, rfl, ?_⟩
      have e2 : (fieldS P T_impl_roundMode (Value.agg #[modeCells.getD 12 .nilFunc, modeCells.getD 13 .nilFunc]) 1 fun f => K f) = K (modeCells.getD 13 .nilFunc) := by kernel_rfl
      rw [e2]
      exact hK
    · refine ⟨_, [], [], rfl, by kernel_rfl, Calls.mono (impl_roundModes_7_n neg half odd w) ?_⟩
      rintro e w' ⟨v, he, hv, hw⟩
      subst he; subst hv; subst hw
      exact hQ
end Go.Proofs.YtfehpaekbbmkcaaGreatDoor

namespace Go.Proofs.YtfehpaekbbmkcaaGreatDoor
open Go Go.Proofs.YtfehpaekbbmkcaaGreatDoor.Sx
set_option linter.unusedVariables false
set_option linter.unusedSimpArgs false
def modeOk (m : Int) : Bool := decide (0 ≤ m ∧ m ≤ 6)
theorem rround_sign {n : Int} {d : Nat} {m : Int} (h : rround n d m ≠ 0) : decide (n < 0) = decide (rround n d m < 0) := by
  have e : rround n d m = if n < 0 then -((roundM n d m : Nat) : Int) else ((roundM n d m : Nat) : Int) := rfl
  by_cases hn : n < 0
  · rw [if_pos hn] at e
    rw [decide_eq_true hn, decide_eq_true (show rround n d m < 0 by omega)]
  · rw [if_neg hn] at e
    rw [decide_eq_false hn, decide_eq_false (show ¬ rround n d m < 0 by omega)]
theorem roundM_len {n : Int} {d : Nat} {m : Int} {k : Nat} (hd : 0 < d) (h : (digs n.natAbs).length ≤ k) : (digs (roundM n d m)).length ≤ k + 1 := by
  apply digs_len
  have h1 := lt_of_len h
  have h2 := roundM_le n d m
  have h3 := Nat.div_le_self n.natAbs d
  have h4 : 0 < 1000000000 ^ k := Nat.pow_pos (by decide)
  rw [Nat.pow_succ]
  omega
theorem impl_isMode_c (m : Int) (w : World) : Ret P n_impl_isMode [.int .i64 m] w fun v w' => v = .bool (modeOk m) ∧ w' = w := by
  refine impl_isMode_ret ?_
  unfold impl_isMode
  refine ifD (fun h => ⟨?_, rfl⟩) (fun h => ⟨?_, rfl⟩)
  · exact congrArg Value.bool (decide_eq_decide.2 (by omega))
  · rw [modeOk, decide_eq_false (by omega)]
theorem spec_l06Mode_c (m : Int) (w : World) : Ret P n_spec_l06Mode [.int .i64 m] w fun v w' => v = .bool (modeOk m) ∧ w' = w := by
  refine spec_l06Mode_ret ?_
  unfold spec_l06Mode
  refine Ret.at (spec_l01In_c m 0 6 w) ?_
  rintro v w1 ⟨hv, hw⟩
  subst hv
  exact ⟨_, rfl, rfl, hw⟩
set_option maxRecDepth 100000 in
theorem impl_roundQuotient_n {w : World} {xs : List Value} {x : Int} {d : Nat} {p : Option Addr} {n c : Nat} {m : Int} (h : Reps w xs (enc x)) (k : IntsR w p n c (digs d)) (hd : 0 < d) (hx : (digs x.natAbs).length ≤ 40) (hn : n ≤ 40) (hm : modeOk m = true) :
    Ret P n_impl_roundQuotient [.agg ⟨xs⟩, .slice p n c, .int .i64 m] w fun v w' => ∃ vs f, v = .agg ⟨vs⟩ ∧ Owns w' w.heap.size vs (enc (rround x d m)) f ∧ f.Nodup ∧ Ext w w' := by
  have hm' := of_decide_eq_true hm
  obtain ⟨a0, ap, an, ac, az, rfl, hda, ha⟩ := open_Signed h (enc_code _)
  simp only [enc, List.cons.injEq, D0.bool.injEq, D0.ints.injEq, and_true] at hda
  obtain ⟨rfl, rfl⟩ := hda
  have hla := ha.1; have hlk := k.1
  have hd0 := digs_pos_len.2 (show d ≠ 0 by omega)
  refine impl_roundQuotient_ret ?_
  unfold impl_roundQuotient
  intro r w1 hn1 r1 w2 hn2
  have e1 := hn1.r_eq; have e2 := hn2.r_eq; have z1 := hn1.size; have z2 := hn2.size
  have X := hn1.ext.trans hn2.ext
  have b0 := hn1.blk.ext hn2.ext; have b1 := hn2.blk
  have fin : ∀ W p' n' c' M, Ext w2 W → Own W w2.heap.size T_int 1 p' n' c' ((digs M).map (Value.int .i64)) → M = roundM x d m → impl_roundQuotient_j0 r r1 p' n' c' W fun v w' => ∃ vs f, v = .agg ⟨vs⟩ ∧ Owns w' w.heap.size vs (enc (rround x d m)) f ∧ f.Nodup ∧ Ext w w' := by
    intro W p' n' c' M hW hO hM
    unfold impl_roundQuotient_j0
    refine ⟨_, (b0.ext hW).loadAt 0 rfl (by kernel_rfl) rfl, ?_⟩
    refine Ret.at (impl_signed_c (neg := decide (x < 0)) hO.ints.1) ?_
    rintro v w5 ⟨hv, y5⟩
    subst hv
    obtain ⟨W', st, ld, ow, xx, _, _⟩ := agg_end (t := T_impl_Signed) (b1.ext (hW.trans y5)) (X.trans (hW.trans y5)) (by omega) (own_int (hO.ext y5) (z := rround x d m) (by rw [rround_abs]; exact hM) rround_sign) (by kernel_rfl) rfl (by omega) (by omega)
    exact ⟨_, _, _, _, rfl, W', st, _, _, _, _, ld, _, _, rfl, ow, nodup_opt p', xx⟩
  refine ⟨_, _, _, b0.loadAt 1 rfl (by kernel_rfl) rfl, ?_⟩
  refine Ret.at (impl_natDiv_c (ha.ext X) (k.ext X) (digs_canon _) (digs_canon _) (by omega) (by omega) (by omega)) ?_
  rintro v w3 ⟨p3, n3, c3, p4, n4, c4, hv, oq, or', _, y3⟩
  subst hv
  rw [val_div] at oq
  rw [val_mod] at or'
  have lq := oq.ints.1; have lr := or'.ints.1
  have D := Ext.drew w3
  have Y := y3.trans D
  have q50 : n3 ≤ 40 := by have := digs_mono_len (Nat.div_le_self x.natAbs d); omega
  have r50 : n4 ≤ 40 := by have := digs_mono_len (Nat.le_of_lt (Nat.mod_lt x.natAbs hd)); omega
  refine ⟨_, _, _, _, _, _, rfl, ifD (fun hrem => ?_) (fun hno => ifF (fin _ _ _ _ _ Y (oq.ext D) ?_))⟩
  · have hne : x.natAbs % d ≠ 0 := digs_pos_len.1 (by omega)
    obtain ⟨fl, hix, hcall⟩ := mode_call hm'.1 hm'.2 (decide (x < 0)) (cmpL (digs (x.natAbs % d + x.natAbs % d)) (digs d)) (decide (x.natAbs / d % 2 = 1))
    refine Ret.at (impl_roundModes_n _) ?_
    rintro v w4 ⟨hv, y4⟩
    subst hv
    refine ⟨_, _, _, _, _, _, _, _, _, _, _, _, _, _, rfl, y4, hix _ ⟨_, fun W hW => ((b0.ext Y).ext hW).loadAt 0 rfl (by kernel_rfl) rfl, ?_⟩⟩
    refine Ret.at (impl_natAdd_c ((or'.ext D).ext y4).ints ((or'.ext D).ext y4).ints (digs_limbs _) (digs_limbs _) (by omega) (by omega)) ?_
    rintro v w5 ⟨p5, n5, c5, hv, o5, y5⟩
    subst hv
    rw [val_add'] at o5
    refine ⟨_, _, _, rfl, y5, ?_⟩
    refine Ret.at (impl_natCmp_c o5.ints (k.ext ((X.trans Y).trans (y4.trans y5)))) ?_
    rintro v w6 ⟨hv, y6⟩
    subst hv
    refine ⟨_, rfl, y6, ?_⟩
    have Y6 := (D.trans (y4.trans y5)).trans y6
    refine Ret.at (impl_NatEven_n (oq.ext Y6).ints (by omega)) ?_
    rintro v w7 ⟨hv, y7⟩
    subst hv
    refine ⟨_, rfl, y7, ?_⟩
    rw [odd_even]
    have Y7 := Y6.trans y7
    refine hcall _ _ ⟨_, rfl, fun hyes => ?_, fun hno => fin _ _ _ _ _ (y3.trans Y7) (oq.ext Y7) ?_⟩
    · intro r8 w8 hn8
      refine Ret.at (impl_natAdd_c ((oq.ext Y7).ext hn8.ext).ints (digs_one_r hn8.blk) (digs_limbs _) (digs_limbs _) (by omega) (by omega)) ?_
      rintro v w9 ⟨p9, n9, c9, hv, o9, y9⟩
      subst hv
      rw [val_add'] at o9
      have l8 := ((y3.trans Y7).trans hn8.ext).le
      refine ⟨_, _, _, rfl, fin _ _ _ _ _ (((y3.trans Y7).trans hn8.ext).trans y9) (o9.mono l8) ?_⟩
      rw [roundM, if_pos ⟨hne, hyes⟩]
    · rw [roundM, if_neg (fun hh => by rw [hh.2] at hno; cases hno)]
  · have heq : x.natAbs % d = 0 := Decidable.byContradiction fun hh => by
      have := digs_pos_len.2 hh
      omega
    rw [roundM, if_neg (fun hh => hh.1 heq)]
theorem spec_l06Away_n {w : World} {neg : Bool} {p1 p2 p3 : Option Addr} {n1 c1 n2 c2 n3 c3 : Nat} {Q R' d : Nat} {m : Int} (h1 : IntsR w p1 n1 c1 (digs Q)) (h2 : IntsR w p2 n2 c2 (digs R')) (h3 : IntsR w p3 n3 c3 (digs d)) (l1 : n1 ≤ 50) (l2 : n2 ≤ 50) :
    Ret P n_spec_l06Away [.bool neg, .slice p1 n1 c1, .slice p2 n2 c2, .slice p3 n3 c3, .int .i64 m] w fun v w' => v = .bool (modeAway m neg (cmpL (digs (R' + R')) (digs d)) (decide (Q % 2 = 1))) ∧ Ext w w' := by
  refine spec_l06Away_ret ?_
  unfold spec_l06Away
  refine Ret.at (spec_l02Add_n h2 h2 (by omega) (by omega)) ?_
  rintro v w1 ⟨p4, n4, c4, hv, i4, y1⟩
  subst hv
  refine ⟨_, _, _, rfl, ?_⟩
  refine Ret.at (spec_l02Cmp_c i4 (h3.ext y1)) ?_
  rintro v w2 ⟨hv, y2⟩
  subst hv
  have X := y1.trans y2
  generalize cmpL (digs (R' + R')) (digs d) = half
  refine ⟨_, rfl, ifD (fun e0 => ⟨by rw [modeAway, if_pos e0], X⟩) (fun e0 => ifD (fun e1 => ⟨by rw [modeAway, if_neg e0, if_pos e1], X⟩) (fun e1 => ifD (fun e2 => ⟨by rw [modeAway, if_neg e0, if_neg e1, if_pos e2], X⟩) (fun e2 => ifD (fun e3 => ⟨by rw [modeAway, if_neg e0, if_neg e1, if_neg e2, if_pos e3], X⟩) (fun e3 => ifD (fun e4 => ⟨by rw [modeAway, if_neg e0, if_neg e1, if_neg e2, if_neg e3, if_pos e4], X⟩) (fun e4 => ifD (fun e5 => ⟨by rw [modeAway, if_neg e0, if_neg e1, if_neg e2, if_neg e3, if_neg e4, if_pos e5], X⟩) (fun e5 => ?_))))))⟩
  have e6 : modeAway m neg half (decide (Q % 2 = 1)) = (decide (0 < half) || (decide (half = 0) && decide (Q % 2 = 1))) := by rw [modeAway, if_neg e0, if_neg e1, if_neg e2, if_neg e3, if_neg e4, if_neg e5]
  rw [e6]
  refine ifD (fun h => ⟨by rw [decide_eq_true h]; rfl, X⟩) (fun h => ifD (fun h0 => ?_) (fun h0 => ⟨by rw [decide_eq_false h, decide_eq_false h0]; rfl, X⟩))
  refine Ret.at (spec_NatEven_n (h1.ext X) l1) ?_
  rintro v w3 ⟨hv, y3⟩
  subst hv
  refine ⟨_, rfl, ?_, X.trans y3⟩
  rw [odd_even, decide_eq_false h, decide_eq_true h0]
  rfl
theorem spec_l06Round_n {w : World} {xs : List Value} {N : Int} {D : Nat} {m : Int} (h : Reps w xs (rmk N D)) (hok : ratOk (rmk N D) = true) :
    Ret P n_spec_l06Round [.agg ⟨xs⟩, .int .i64 m] w fun v w' => ∃ vs f, v = .agg ⟨vs⟩ ∧ Owns w' w.heap.size vs (enc (rround N D m)) f ∧ f.Nodup ∧ Ext w w' := by
  obtain ⟨p1, n1, c1, p2, n2, c2, rfl, i1, i2, li1, li2, he, hd⟩ := rmk_open h hok
  have ei1 := i1.1; have ei2 := i2.1
  have hd0 := digs_pos_len.2 (show D ≠ 0 by omega)
  refine spec_l06Round_ret ?_
  unfold spec_l06Round
  intro r w1 hn1 r1 w2 hn2
  have e1 := hn1.r_eq; have e2 := hn2.r_eq; have z1 := hn1.size; have z2 := hn2.size
  have X := hn1.ext.trans hn2.ext
  have b0 := hn1.blk.ext hn2.ext; have b1 := hn2.blk
  have fin : ∀ W p' n' c' M, Ext w2 W → IntsR W p' n' c' (digs M) → M = roundM N D m → spec_l06Round_j0 r r1 p' n' c' W fun v w' => ∃ vs f, v = .agg ⟨vs⟩ ∧ Owns w' w.heap.size vs (enc (rround N D m)) f ∧ f.Nodup ∧ Ext w w' := by
    intro W p' n' c' M hW hI hM
    unfold spec_l06Round_j0
    refine ⟨_, (b0.ext hW).loadAt 0 rfl (by kernel_rfl) rfl, ?_⟩
    refine Ret.at (spec_l04Make_c hI (digs_limbs _)) ?_
    rintro v w5 ⟨b5, p5, n5, c5, hv, hb5, o5, y5⟩
    subst hv
    rw [val_digs, Int.toNat_natCast] at hb5 o5
    have hl5 : (digs M).length ≤ 19 := by rw [hM]; exact roundM_len hd (by omega)
    have ecap : capL (digs M) = digs M := by unfold capL; rw [if_pos (by omega)]
    rw [ecap] at hb5 o5
    have lW := hW.le
    have ho : Owns w5 W.heap.size [.bool b5, .slice p5 n5 c5] (enc (rround N D m)) (p5.map (·.block)).toList := by
      rw [hb5]
      exact own_int o5 (z := rround N D m) (by rw [rround_abs]; exact hM) rround_sign
    obtain ⟨W', st, ld, ow, xx, _, _⟩ := agg_end (t := T_impl_Signed) (b1.ext (hW.trans y5)) (X.trans (hW.trans y5)) (by omega) ho (by kernel_rfl) rfl (by omega) (by omega)
    exact ⟨_, _, _, _, rfl, W', st, _, _, _, _, ld, _, _, rfl, ow, nodup_opt p5, xx⟩
  refine ⟨_, _, _, b0.loadAt 1 rfl (by kernel_rfl) rfl, _, _, _, b0.loadAt 2 rfl (by kernel_rfl) rfl, ?_⟩
  refine Ret.at (spec_l03Div_c (i1.ext X) (i2.ext X) (digs_limbs _) (digs_canon _) (by omega) (by omega) (by omega)) ?_
  rintro v w3 ⟨p3, n3, c3, p4, n4, c4, hv, oq, or', y3⟩
  subst hv
  rw [val_div] at oq
  rw [val_mod] at or'
  have lq := oq.1; have lr := or'.1
  have q50 : n3 ≤ 40 := by have := digs_mono_len (Nat.div_le_self N.natAbs D); omega
  have r50 : n4 ≤ 40 := by have := digs_mono_len (Nat.le_of_lt (Nat.mod_lt N.natAbs hd)); omega
  refine ⟨_, _, _, _, _, _, rfl, ifD (fun hrem => ?_) (fun hno => ifF (fin _ _ _ _ _ y3 oq ?_))⟩
  · have hne : N.natAbs % D ≠ 0 := digs_pos_len.1 (by omega)
    refine ⟨_, (b0.ext y3).loadAt 0 rfl (by kernel_rfl) rfl, _, _, _, (b0.ext y3).loadAt 2 rfl (by kernel_rfl) rfl, ?_⟩
    refine Ret.at (spec_l06Away_n oq or' (i2.ext (X.trans y3)) (by omega) (by omega)) ?_
    rintro v w4 ⟨hv, y4⟩
    subst hv
    refine ⟨_, rfl, fun hyes => ?_, fun hno => fin _ _ _ _ _ (y3.trans y4) (oq.ext y4) ?_⟩
    · intro r8 w8 hn8
      refine Ret.at (spec_l02Add_n ((oq.ext y4).ext hn8.ext) (digs_one_r hn8.blk) (by omega) (by omega)) ?_
      rintro v w9 ⟨p9, n9, c9, hv, i9, y9⟩
      subst hv
      refine ⟨_, _, _, rfl, fin _ _ _ _ _ (((y3.trans y4).trans hn8.ext).trans y9) i9 ?_⟩
      rw [roundM, if_pos ⟨hne, hyes⟩]
    · rw [roundM, if_neg (fun hh => by rw [hh.2] at hno; cases hno)]
  · have heq : N.natAbs % D = 0 := Decidable.byContradiction fun hh => by
      have := digs_pos_len.2 hh
      omega
    rw [roundM, if_neg (fun hh => hh.1 heq)]
theorem impl_RatRound_n {w : World} {xs : List Value} {N : Int} {D : Nat} {m : Int} (h : Reps w xs (rmk N D)) (hok : ratOk (rmk N D) = true) :
    Ret P n_impl_RatRound [.agg ⟨xs⟩, .int .i64 m] w fun v w' => ∃ vs f, v = .tuple #[.agg ⟨vs⟩, .bool (modeOk m)] ∧ Owns w' w.heap.size vs (enc (if modeOk m then rround N D m else 0)) f ∧ f.Nodup ∧ Ext w w' := by
  have hr := h
  obtain ⟨p1, n1, c1, p2, n2, c2, rfl, i1, i2, li1, li2, he, hd⟩ := rmk_open h hok
  have ei1 := i1.1; have ei2 := i2.1
  refine impl_RatRound_ret ?_
  unfold impl_RatRound
  intro r w1 hn1 r1 w2 hn2
  have e1 := hn1.r_eq; have e2 := hn2.r_eq; have z1 := hn1.size; have z2 := hn2.size
  have X := hn1.ext.trans hn2.ext
  have b0 := hn1.blk.ext hn2.ext; have b1 := hn2.blk
  refine ⟨_, _, _, _, _, _, _, b0.loadA0 (by kernel_rfl), ?_⟩
  refine Ret.at (impl_RatOk_c (hr.ext X) (rmk_code _ _)) ?_
  rintro v w3 ⟨hv, y3⟩
  subst hv
  rw [hok]
  refine ⟨_, rfl, ifN (fun hh => absurd hh (by simp)) (fun _ => ?_)⟩
  refine Ret.at (impl_isMode_c m _) ?_
  rintro v w4 ⟨hv, hw⟩
  subst hv; subst hw
  have X3 := X.trans y3
  have l3 := y3.le
  have b0 := b0.ext y3; have b1 := b1.ext y3
  refine ⟨_, rfl, ifN (fun hno => ?_) (fun hyes => ?_)⟩
  · obtain ⟨W', st, ld, ow, xx, _, _⟩ := agg_end (t := T_impl_Signed) b1 X3 (by omega) (own_sgn0 w4 (r1 + 1)) (by kernel_rfl) rfl (by omega) (by omega)
    exact ⟨W', st, _, _, _, _, ld, _, [], by rw [hno], by rw [hno]; exact ow, List.nodup_nil, xx⟩
  · refine ⟨_, _, _, _, b0.loadAAt 0 [.bool (decide (N < 0)), .slice p1 n1 c1] rfl (by kernel_rfl) rfl, _, _, _, b0.loadAt 2 rfl (by kernel_rfl) rfl, ?_⟩
    refine Ret.at (impl_roundQuotient_n (he.ext X3) (i2.ext X3) hd (by omega) (by omega) hyes) ?_
    rintro v w5 ⟨vs5, f5, hv, ho5, nd5, y5⟩
    subst hv
    have hr5 := ho5.reps
    obtain ⟨s0, sp, sn, sc, sz, rfl, _, _⟩ := open_Signed hr5 (enc_code _)
    obtain ⟨W', st, ld, ow, xx, _, _⟩ := agg_end (t := T_impl_Signed) (b1.ext y5) (X3.trans y5) (by omega) ho5 (by kernel_rfl) rfl (by omega) (by omega)
    exact ⟨_, _, _, _, rfl, W', st, _, _, _, _, ld, _, f5, by rw [hyes], by rw [hyes]; exact ow, nd5, xx⟩
theorem spec_RatRound_n {w : World} {xs : List Value} {N : Int} {D : Nat} {m : Int} (h : Reps w xs (rmk N D)) (hok : ratOk (rmk N D) = true) :
    Ret P n_spec_RatRound [.agg ⟨xs⟩, .int .i64 m] w fun v w' => ∃ vs f, v = .tuple #[.agg ⟨vs⟩, .bool (modeOk m)] ∧ Owns w' w.heap.size vs (enc (if modeOk m then rround N D m else 0)) f ∧ f.Nodup ∧ Ext w w' := by
  have hr := h
  obtain ⟨p1, n1, c1, p2, n2, c2, rfl, i1, i2, li1, li2, he, hd⟩ := rmk_open h hok
  have ei1 := i1.1; have ei2 := i2.1
  refine spec_RatRound_ret ?_
  unfold spec_RatRound
  intro r w1 hn1 r1 w2 hn2
  have e1 := hn1.r_eq; have e2 := hn2.r_eq; have z1 := hn1.size; have z2 := hn2.size
  have X := hn1.ext.trans hn2.ext
  have b0 := hn1.blk.ext hn2.ext; have b1 := hn2.blk
  refine ⟨_, _, _, _, _, _, _, b0.loadA0 (by kernel_rfl), ?_⟩
  refine Ret.at (spec_RatOk_c (hr.ext X) (rmk_code _ _)) ?_
  rintro v w3 ⟨hv, y3⟩
  subst hv
  rw [hok]
  refine ⟨_, rfl, ifN (fun hh => absurd hh (by simp)) (fun _ => ?_)⟩
  refine Ret.at (spec_l06Mode_c m _) ?_
  rintro v w4 ⟨hv, hw⟩
  subst hv; subst hw
  have X3 := X.trans y3
  have l3 := y3.le
  have b0 := b0.ext y3; have b1 := b1.ext y3
  refine ⟨_, rfl, ifN (fun hno => ?_) (fun hyes => ?_)⟩
  · obtain ⟨W', st, ld, ow, xx, _, _⟩ := agg_end (t := T_impl_Signed) b1 X3 (by omega) (own_sgn0 w4 (r1 + 1)) (by kernel_rfl) rfl (by omega) (by omega)
    exact ⟨W', st, _, _, _, _, ld, _, [], by rw [hno], by rw [hno]; exact ow, List.nodup_nil, xx⟩
  · refine ⟨_, _, _, _, _, _, _, b0.loadA0 (by kernel_rfl), ?_⟩
    refine Ret.at (spec_l06Round_n (hr.ext X3) hok) ?_
    rintro v w5 ⟨vs5, f5, hv, ho5, nd5, y5⟩
    subst hv
    have hr5 := ho5.reps
    obtain ⟨s0, sp, sn, sc, sz, rfl, _, _⟩ := open_Signed hr5 (enc_code _)
    obtain ⟨W', st, ld, ow, xx, _, _⟩ := agg_end (t := T_impl_Signed) (b1.ext y5) (X3.trans y5) (by omega) ho5 (by kernel_rfl) rfl (by omega) (by omega)
    exact ⟨_, _, _, _, rfl, W', st, _, _, _, _, ld, _, f5, by rw [hyes], by rw [hyes]; exact ow, nd5, xx⟩
end Go.Proofs.YtfehpaekbbmkcaaGreatDoor

namespace Go.Proofs.YtfehpaekbbmkcaaGreatDoor
open Go Go.Proofs.YtfehpaekbbmkcaaGreatDoor.Sx
set_option linter.unusedVariables false
set_option linter.unusedSimpArgs false
theorem two_end {t1 t2 : TypeId} {w W : World} {r1 r2 : Nat} {e1 e2 : TypeId} {o1 o2 xs1 xs2 : List Value} {d1 d2 : List D0} {f1 f2 : List Nat} {B : Nat} (hb1 : Blk W r1 e1 o1) (hb2 : Blk W r2 e2 o2) (X : Ext w W)
    (ho1 : Owns W B xs1 d1 f1) (ho2 : Owns W B xs2 d2 f2) (ht1 : aggT P t1 xs1.length = true) (hl1 : xs1.length = o1.length) (ht2 : aggT P t2 xs2.length = true) (hl2 : xs2.length = o2.length) (hne : r1 ≠ r2) (hr1 : w.heap.size ≤ r1) (hr2 : w.heap.size ≤ r2) (hB1 : r1 < B) (hB2 : r2 < B) (hwB : w.heap.size ≤ B) :
    ∃ W1 W2, Stores P t1 ⟨r1, 0, none⟩ (.agg ⟨xs1⟩) W W1 ∧ Chg [r1] W W1 ∧ Stores P t2 ⟨r2, 0, none⟩ (.agg ⟨xs2⟩) W1 W2 ∧ Loads P t1 ⟨r1, 0, none⟩ (.agg ⟨xs1⟩) W2 ∧ Loads P t2 ⟨r2, 0, none⟩ (.agg ⟨xs2⟩) W2 ∧ Owns W2 w.heap.size xs1 d1 f1 ∧ Owns W2 w.heap.size xs2 d2 f2 ∧ Ext w W2 := by
  obtain ⟨W1, st1, hb1', ch1, _⟩ := hb1.storeA0 (P := P) (t := t1) (xs := xs1) ht1 hl1 ho1.reps.cells1
  obtain ⟨W2, st2, hb2', ch2, _⟩ := (hb2.chg ch1 (by simp; omega)).storeA0 (P := P) (t := t2) (xs := xs2) ht2 hl2 ho2.reps.cells1
  exact ⟨W1, W2, st1, ch1, st2, (hb1'.chg ch2 (by simp; omega)).loadA0 ht1, hb2'.loadA0 ht2, ((ho1.chg1 ch1 hB1).chg1 ch2 hB2).mono hwB, ((ho2.chg1 ch1 hB1).chg1 ch2 hB2).mono hwB, (X.chg ch1 (by simp; exact hr1)).chg ch2 (by simp; exact hr2)⟩
theorem own_money0 (W : World) (B : Nat) : Owns W B [.string ByteArray.empty, .bool false, .slice none 0 0] zeroMoney [] :=
  Owns.append (Owns.str _ _ _) (Owns.append (Owns.bool _ _ false) (Owns.ints (zs := []) (Own.nil W B T_int 1)))
theorem Owns.notin {w : World} {B : Nat} {r : Nat} {e : TypeId} {cs : List Value} (hb : Blk w r e cs) (he : e ≠ T_int) : ∀ {vs : List Value} {ds : List D0} {f : List Nat}, Owns w B vs ds f → r ∉ f
  | [], [], f, h => by rw [show f = [] from h]; simp
  | [], _ :: _, _, h => h.elim
  | _ :: _, [], _, h => h.elim
  | v :: vs, d :: ds, _, h => by
    obtain ⟨f1, f2, rfl, h1, h2⟩ := h
    have ih := Owns.notin hb he h2
    intro hm
    rcases List.mem_append.1 hm with hm | hm
    · cases d <;> simp only [Own0] at h1
      case ints zs =>
        obtain ⟨p, n, c, _, ho, hf⟩ := h1
        rw [hf] at hm
        have hm := opt_mem hm
        rcases ho.2 with k1 | ⟨g, cap, cur, k1, k2, k3, k4⟩
        · simp only [Value.slice.injEq] at k1
          rw [k1.1.1] at hm
          simp at hm
        · simp only [Value.slice.injEq] at k1
          rw [k1.1] at hm
          simp at hm
          subst hm
          rw [show w.heap[g]? = _ from hb] at k3
          simp only [Option.some.injEq, Obj.cells.injEq] at k3
          exact he k3.2.1
      all_goals (rw [h1.2] at hm; simp at hm)
    · exact ih hm
def rr (N : Int) (D : Nat) (m : Int) : Int := if modeOk m then rround N D m else 0
def restR (N : Int) (D : Nat) (m : Int) : List D0 := redR (N * ((1 : Nat) : Int) + -(rround N D m) * (D : Int)) (D * 1)
def rs (N : Int) (D : Nat) (m : Int) : List D0 := if modeOk m then restR N D m else rat0
def rmOk (cur : ByteArray) (N : Int) (D : Nat) (m : Int) : Bool := modeOk m && moneyOk (.str cur :: enc (rround N D m))
def rmMoney (cur : ByteArray) (N : Int) (D : Nat) (m : Int) : List D0 := if rmOk cur N D m then .str cur :: enc (rround N D m) else zeroMoney
def rmRest (cur : ByteArray) (N : Int) (D : Nat) (m : Int) : List D0 := if rmOk cur N D m then restR N D m else rat0
theorem one_len1 : (digs 1).length ≤ 1 := by rw [digs_one]; decide
theorem redR_int {z : Int} (h : (digs z.natAbs).length ≤ 18) : redR z 1 = rmk z 1 := by
  have h1 : redN z 1 = z := by
    have h2 : Nat.gcd z.natAbs 1 = 1 := Nat.gcd_one_right _
    unfold redN
    rw [h2, Nat.div_one]
    split <;> omega
  have h2 : redD z 1 = 1 := by
    have h2 : Nat.gcd z.natAbs 1 = 1 := Nat.gcd_one_right _
    unfold redD
    rw [h2]
  rw [redR_small h (Nat.le_trans one_len1 (by decide)), h1, h2]
theorem rmk_int_ok {z : Int} (h : (digs z.natAbs).length ≤ 18) : ratOk (rmk z 1) = true := ratOk_rmk (by decide) (Nat.gcd_one_right _) h (Nat.le_trans one_len1 (by decide))
theorem rr_len {N : Int} {D : Nat} {m : Int} (hd : 0 < D) (h : (digs N.natAbs).length ≤ 10) : (digs (rr N D m).natAbs).length ≤ 11 := by
  unfold rr
  split
  · rw [rround_abs]; exact roundM_len hd h
  · rw [Int.natAbs_zero, digs_zero]; simp
theorem rest_len {N z : Int} {D : Nat} (hN : (digs N.natAbs).length ≤ 10) (hD : (digs D).length ≤ 6) (hz : (digs z.natAbs).length ≤ 11) : redOk (N * ((1 : Nat) : Int) + -z * (D : Int)) (D * 1) = true := by
  have h1 : (digs (-z * (D : Int)).natAbs).length ≤ 17 := by
    rw [Int.natAbs_mul, Int.natAbs_natCast, Int.natAbs_neg]
    exact prod_len hz hD
  have h2 : (digs (N * ((1 : Nat) : Int)).natAbs).length ≤ 17 := by
    rw [Int.natCast_one, Int.mul_one]; omega
  exact redOk_small (sum_len h2 h1) (by rw [Nat.mul_one]; omega)
theorem spec_l09Make_s {w : World} {B : Nat} {xs : List Value} {z : Int} {f : List Nat} (cur : ByteArray) (h : Owns w B xs (enc z) f) (hnd : f.Nodup) (hB : B ≤ w.heap.size) :
    Ret P n_spec_l09Make [.string cur, .agg ⟨xs⟩] w fun v w' => ∃ vs f', v = .tuple #[.agg ⟨vs⟩, .bool (moneyOk (.str cur :: enc z))] ∧ Owns w' B vs (moneyMk cur z) f' ∧ f'.Nodup ∧ (∀ k ∈ f', k ∈ f) ∧ Ext w w' := by
  have ho := h
  obtain ⟨a0, a1p, a1n, a1c, a1z, rfl, hd, ha⟩ := open_Signed h.reps (enc_code _)
  refine spec_l09Make_ret ?_
  unfold spec_l09Make
  intro r w1 hn1 r1 w2 hn2
  refine ⟨_, _, _, _, (hn1.blk.ext hn2.ext).loadA0 (by kernel_rfl), ?_⟩
  intro r2 w3 hn3
  have e1 := hn1.r_eq; have e2 := hn2.r_eq; have e3 := hn3.r_eq; have s1 := hn1.size; have s2 := hn2.size; have s3 := hn3.size
  obtain ⟨w4, st4, hb4, y4⟩ := hn3.fill (P := P) (t := T_impl_Money) (xs := [.string cur, .bool a0, .slice a1p a1n a1c]) (by simp [Value.oneCell']) (by kernel_rfl) rfl
  have X := (hn1.ext.trans hn2.ext).trans y4
  have k1 := hn2.blk.ext y4
  refine ⟨w4, st4, _, _, _, _, _, hb4.loadA0 (by kernel_rfl), ?_⟩
  have hm : Reps w4 [.string cur, .bool a0, .slice a1p a1n a1c] (.str cur :: enc z) := ⟨rfl, h.reps.ext X⟩
  refine Ret.at (spec_MoneyOk_c hm rfl) ?_
  rintro v w5 ⟨hv, y5⟩
  subst hv
  have X5 := X.trans y5
  refine ⟨_, rfl, ifN (fun hno => ?_) (fun hyes => ?_)⟩
  · obtain ⟨w6, st6, hb6, ch, sz⟩ := (k1.ext y5).storeA0 (P := P) (t := T_impl_Money) (xs := [.string ByteArray.empty, .bool false, .slice none 0 0]) (by kernel_rfl) rfl (by simp [Value.oneCell'])
    refine ⟨w6, st6, _, _, _, _, _, hb6.loadA0 (by kernel_rfl), [.string ByteArray.empty, .bool false, .slice none 0 0], [], by rw [hno], ?_, List.nodup_nil, fun _ hh => by simp at hh, X5.chg ch (by simp; omega)⟩
    unfold moneyMk
    rw [hno]
    exact Owns.append (Owns.str _ _ _) (Owns.append (Owns.bool _ _ false) (Owns.ints (zs := []) (Own.nil w6 B T_int 1)))
  · obtain ⟨w6, st6, hb6, ch, sz⟩ := (k1.ext y5).storeA0 (P := P) (t := T_impl_Money) (xs := [.string cur, .bool a0, .slice a1p a1n a1c]) (by kernel_rfl) rfl (by simp [Value.oneCell'])
    refine ⟨_, _, _, _, _, (hb4.ext y5).loadA0 (by kernel_rfl), w6, st6, _, _, _, _, _, hb6.loadA0 (by kernel_rfl), [.string cur, .bool a0, .slice a1p a1n a1c], f, by rw [hyes], ?_, hnd, fun _ hh => hh, X5.chg ch (by simp; omega)⟩
    unfold moneyMk
    rw [hyes]
    have h5 := ((ho.ext X5).chg ch fun k hk hm => by
      have := (ho.lt k hk).2
      simp at hm; omega)
    exact Owns.append (Owns.str _ _ cur) h5
theorem impl_moneyOf_s {w : World} (ht : Tab w) {B : Nat} {xs : List Value} {z : Int} {f : List Nat} (cur : ByteArray) (h : Owns w B xs (enc z) f) (hnd : f.Nodup) (hB : B ≤ w.heap.size) :
    Ret P n_impl_moneyOf [.string cur, .agg ⟨xs⟩] w fun v w' => ∃ vs f', v = .tuple #[.agg ⟨vs⟩, .bool (moneyOk (.str cur :: enc z))] ∧ Owns w' B vs (moneyMk cur z) f' ∧ f'.Nodup ∧ (∀ k ∈ f', k ∈ f) ∧ Ext w w' := by
  have ho := h
  obtain ⟨a0, a1p, a1n, a1c, a1z, rfl, hd, ha⟩ := open_Signed h.reps (enc_code _)
  refine impl_moneyOf_ret ?_
  unfold impl_moneyOf
  intro r w1 hn1 r1 w2 hn2
  refine ⟨_, _, _, _, (hn1.blk.ext hn2.ext).loadA0 (by kernel_rfl), ?_⟩
  intro r2 w3 hn3
  have e1 := hn1.r_eq; have e2 := hn2.r_eq; have e3 := hn3.r_eq; have s1 := hn1.size; have s2 := hn2.size; have s3 := hn3.size
  obtain ⟨w4, st4, hb4, y4⟩ := hn3.fill (P := P) (t := T_impl_Money) (xs := [.string cur, .bool a0, .slice a1p a1n a1c]) (by simp [Value.oneCell']) (by kernel_rfl) rfl
  have X := (hn1.ext.trans hn2.ext).trans y4
  have k1 := hn2.blk.ext y4
  refine ⟨w4, st4, _, _, _, _, _, hb4.loadA0 (by kernel_rfl), ?_⟩
  have hm : Reps w4 [.string cur, .bool a0, .slice a1p a1n a1c] (.str cur :: enc z) := ⟨rfl, h.reps.ext X⟩
  refine Ret.at (impl_MoneyOk_c (ht.ext X) hm rfl) ?_
  rintro v w5 ⟨hv, y5⟩
  subst hv
  have X5 := X.trans y5
  refine ⟨_, rfl, fun hyes => ?_, fun hno => ?_⟩
  · obtain ⟨w6, st6, hb6, ch, sz⟩ := (k1.ext y5).storeA0 (P := P) (t := T_impl_Money) (xs := [.string cur, .bool a0, .slice a1p a1n a1c]) (by kernel_rfl) rfl (by simp [Value.oneCell'])
    refine ⟨_, _, _, _, _, (hb4.ext y5).loadA0 (by kernel_rfl), w6, st6, _, _, _, _, _, hb6.loadA0 (by kernel_rfl), [.string cur, .bool a0, .slice a1p a1n a1c], f, by rw [hyes], ?_, hnd, fun _ hh => hh, X5.chg ch (by simp; omega)⟩
    unfold moneyMk
    rw [hyes]
    have h5 := ((ho.ext X5).chg ch fun k hk hm => by
      have := (ho.lt k hk).2
      simp at hm; omega)
    exact Owns.append (Owns.str _ _ cur) h5
  · obtain ⟨w6, st6, hb6, ch, sz⟩ := (k1.ext y5).storeA0 (P := P) (t := T_impl_Money) (xs := [.string ByteArray.empty, .bool false, .slice none 0 0]) (by kernel_rfl) rfl (by simp [Value.oneCell'])
    refine ⟨w6, st6, _, _, _, _, _, hb6.loadA0 (by kernel_rfl), [.string ByteArray.empty, .bool false, .slice none 0 0], [], by rw [hno], ?_, List.nodup_nil, fun _ hh => by simp at hh, X5.chg ch (by simp; omega)⟩
    unfold moneyMk
    rw [hno]
    exact Owns.append (Owns.str _ _ _) (Owns.append (Owns.bool _ _ false) (Owns.ints (zs := []) (Own.nil w6 B T_int 1)))
theorem impl_RatRest_n {w : World} {xs : List Value} {N : Int} {D : Nat} {m : Int} (h : Reps w xs (rmk N D)) (hok : ratOk (rmk N D) = true) (hN : (digs N.natAbs).length ≤ 10) (hD : (digs D).length ≤ 6) :
    Ret P n_impl_RatRest [.agg ⟨xs⟩, .int .i64 m] w fun v w' => ∃ vs1 f1 vs2 f2, v = .tuple #[.agg ⟨vs1⟩, .agg ⟨vs2⟩, .bool (modeOk m)] ∧ Owns w' w.heap.size vs1 (enc (rr N D m)) f1 ∧ f1.Nodup ∧ Owns w' w.heap.size vs2 (rs N D m) f2 ∧ f2.Nodup ∧ (∀ k ∈ f1, k ∉ f2) ∧ Ext w w' := by
  have hr := h
  obtain ⟨p1, n1, c1, p2, n2, c2, rfl, i1, i2, li1, li2, he, hd⟩ := rmk_open h hok
  refine impl_RatRest_ret ?_
  unfold impl_RatRest
  intro r w1 hn1 r1 w2 hn2 r2 w3 hn3
  have e1 := hn1.r_eq; have e2 := hn2.r_eq; have e3 := hn3.r_eq; have z1 := hn1.size; have z2 := hn2.size; have z3 := hn3.size
  have X := (hn1.ext.trans hn2.ext).trans hn3.ext
  have b0 := (hn1.blk.ext hn2.ext).ext hn3.ext; have b1 := hn2.blk.ext hn3.ext; have b2 := hn3.blk
  have zlen := rr_len (m := m) hd hN
  have zok := rmk_int_ok (show (digs (rr N D m).natAbs).length ≤ 18 by omega)
  have zred := redR_int (show (digs (rr N D m).natAbs).length ≤ 18 by omega)
  have zrok := redOk_small (n := rr N D m) (d := 1) (by omega) (Nat.le_trans one_len1 (by decide))
  have dok := rest_len (z := rr N D m) hN hD zlen
  refine ⟨_, _, _, _, _, _, _, b0.loadA0 (by kernel_rfl), ?_⟩
  refine Ret.at (impl_RatRound_n (m := m) (hr.ext X) hok) ?_
  rintro v w4 ⟨vs4, f4, hv, ho4, nd4, y4⟩
  subst hv
  have ho4 : Owns w4 w3.heap.size vs4 (enc (rr N D m)) f4 := ho4
  have hr4 := ho4.reps
  obtain ⟨s0, sp, sn, sc, sz, rfl, _, _⟩ := open_Signed hr4 (enc_code _)
  refine ⟨_, _, _, _, _, rfl, ?_⟩
  intro r3 w5 hn5
  have e5 := hn5.r_eq; have z5 := hn5.size; have l4 := y4.le
  obtain ⟨w6, st6, hb6, y6⟩ := hn5.fill (P := P) (t := T_impl_Signed) (xs := [.bool s0, .slice sp sn sc]) (by simp [Value.oneCell']) (by kernel_rfl) rfl
  have Y6 := y4.trans y6
  have l6 := y6.le
  have zero : ∀ W, Ext w6 W → modeOk m = false → ∃ W1, Stores P T_impl_Signed ⟨r1, 0, none⟩ (.agg ⟨[.bool false, .slice none 0 0]⟩) W W1 ∧ ∃ W2, Stores P T_impl_Rat ⟨r2, 0, none⟩ (.agg ⟨[.bool false, .slice none 0 0, .slice none 0 0]⟩) W1 W2 ∧ Loads P T_impl_Signed ⟨r1, 0, none⟩ (.agg ⟨[.bool false, .slice none 0 0]⟩) W2 ∧ Loads P T_impl_Rat ⟨r2, 0, none⟩ (.agg ⟨[.bool false, .slice none 0 0, .slice none 0 0]⟩) W2 ∧ Owns W2 w.heap.size [.bool false, .slice none 0 0] (enc (rr N D m)) [] ∧ Owns W2 w.heap.size [.bool false, .slice none 0 0, .slice none 0 0] (rs N D m) [] ∧ Ext w W2 := by
    intro W hW hno
    have q1 := (b1.ext Y6).ext hW; have q2 := (b2.ext Y6).ext hW
    obtain ⟨W1, W2, a1, _, a2, a3, a4, a5, a6, a7⟩ := two_end (t1 := T_impl_Signed) (t2 := T_impl_Rat) q1 q2 ((X.trans Y6).trans hW) (own_sgn0 W (r2 + 1)) (own_rat0 W (r2 + 1)) (by kernel_rfl) rfl (by kernel_rfl) rfl (by omega) (by omega) (by omega) (by omega) (by omega) (by omega)
    have z1' : rr N D m = 0 := by rw [rr, hno]; rfl
    have z2' : rs N D m = rat0 := by rw [rs, hno]; rfl
    rw [z1', z2']
    exact ⟨W1, a1, W2, a2, a3, a4, a5, a6, a7⟩
  refine ⟨w6, st6, ifN (fun hno => ?_) (fun hyes => ?_)⟩
  · obtain ⟨W1, a1, W2, a2, a3, a4, a5, a6, a7⟩ := zero _ (Ext.refl _) hno
    exact ⟨W1, a1, W2, a2, _, _, _, _, a3, _, _, _, _, _, _, _, a4, _, [], _, [], by rw [hno], a5, List.nodup_nil, a6, List.nodup_nil, fun k hk => by simp at hk, a7⟩
  ·
    have hr6 : Reps w6 [.bool s0, .slice sp sn sc] (enc (rr N D m)) := hr4.ext y6
    refine ⟨_, _, _, _, hb6.loadA0 (by kernel_rfl), ?_⟩
    refine Ret.at (impl_RatInt_n hr6 (by omega)) ?_
    rintro v w7 ⟨vs7, f7, hv, ho7, _, y7⟩
    subst hv
    rw [zred] at ho7
    rw [zrok]
    have hr7 := ho7.reps
    obtain ⟨u0, up, un, uc, uz, up2, un2, uc2, uz2, rfl, _, _, _⟩ := open_Rat hr7 (rmk_code _ _)
    refine ⟨_, _, _, _, _, _, _, _, rfl, ?_⟩
    intro r4 w8 hn8
    have e8 := hn8.r_eq; have z8 := hn8.size; have l7 := y7.le
    obtain ⟨w9, st9, hb9, y9⟩ := hn8.fill (P := P) (t := T_impl_Rat) (xs := [.bool u0, .slice up un uc, .slice up2 un2 uc2]) (by simp [Value.oneCell']) (by kernel_rfl) rfl
    have l9 := y9.le
    have Y9 := (Y6.trans y7).trans y9
    refine ⟨w9, st9, _, _, _, _, _, _, _, (b0.ext Y9).loadA0 (by kernel_rfl), _, _, _, _, _, _, _, hb9.loadA0 (by kernel_rfl), ?_⟩
    refine Ret.at (impl_RatSub_n (hr.ext (X.trans Y9)) (hr7.ext y9) hok zok) ?_
    rintro v w10 ⟨vs10, f10, hv, ho10, nd10, y10⟩
    subst hv
    rw [dok]
    have hr10 := ho10.reps
    obtain ⟨g0, gp, gn, gc, gz, gp2, gn2, gc2, gz2, rfl, _, _, _⟩ := open_Rat hr10 (redR_code _ _)
    refine ⟨_, _, _, _, _, _, _, _, rfl, ?_⟩
    intro r5 w11 hn11
    have e11 := hn11.r_eq; have z11 := hn11.size; have l10 := y10.le
    obtain ⟨w12, st12, hb12, y12⟩ := hn11.fill (P := P) (t := T_impl_Rat) (xs := [.bool g0, .slice gp gn gc, .slice gp2 gn2 gc2]) (by simp [Value.oneCell']) (by kernel_rfl) rfl
    have D' := Ext.drew w12
    have Y12 := ((Y9.trans y10).trans y12).trans D'
    have T12 := (((y7.trans y9).trans y10).trans y12).trans D'
    have q1 := b1.ext Y12; have q2 := b2.ext Y12
    have k3 := hb6.ext T12; have k5 := hb12.ext D'
    have o1 := (ho4.ext y6).ext T12
    have o2 := ((ho10.ext y12).ext D').mono (show w3.heap.size ≤ w9.heap.size by omega)
    have dis : ∀ k ∈ f4, k ∉ f10 := fun k hk hm => by
      have a := (ho4.lt k hk).2
      have b := (ho10.lt k hm).1
      omega
    refine ⟨w12, st12, ?_⟩
    refine ifN (fun hh => absurd hh (by simp)) (fun _ => ifN (fun hh => absurd hh (by simp)) (fun _ => ?_))
    obtain ⟨W1, W2, a1, ch1, a2, a3, a4, a5, a6, a7⟩ := two_end (t1 := T_impl_Signed) (t2 := T_impl_Rat) q1 q2 (X.trans Y12) o1 o2 (by kernel_rfl) rfl (by kernel_rfl) rfl (by omega) (by omega) (by omega) (by omega) (by omega) (by omega)
    have z1' : rr N D m = rround N D m := by rw [rr, hyes]; rfl
    have z2' : rs N D m = restR N D m := by rw [rs, hyes]; rfl
    refine ⟨[r1], _, _, _, _, fun W hW => (k3.chg (show Chg [r1] w12.drew W from hW) (by simp; omega)).loadA0 (by kernel_rfl), _, _, _, _, _, _, _, fun W hW => (k5.chg (show Chg [r1] w12.drew W from hW) (by simp; omega)).loadA0 (by kernel_rfl), W1, a1, show Chg [r1] w12.drew W1 from ch1, W2, a2, _, _, _, _, a3, _, _, _, _, _, _, _, a4, _, f4, _, f10, by rw [hyes], a5, nd4, ?_, nd10, dis, a7⟩
    rw [z2', restR, ← z1']
    exact a6
theorem spec_RatRest_n {w : World} {xs : List Value} {N : Int} {D : Nat} {m : Int} (h : Reps w xs (rmk N D)) (hok : ratOk (rmk N D) = true) (hN : (digs N.natAbs).length ≤ 10) (hD : (digs D).length ≤ 6) :
    Ret P n_spec_RatRest [.agg ⟨xs⟩, .int .i64 m] w fun v w' => ∃ vs1 f1 vs2 f2, v = .tuple #[.agg ⟨vs1⟩, .agg ⟨vs2⟩, .bool (modeOk m)] ∧ Owns w' w.heap.size vs1 (enc (rr N D m)) f1 ∧ f1.Nodup ∧ Owns w' w.heap.size vs2 (rs N D m) f2 ∧ f2.Nodup ∧ (∀ k ∈ f1, k ∉ f2) ∧ Ext w w' := by
  have hr := h
  obtain ⟨p1, n1, c1, p2, n2, c2, rfl, i1, i2, li1, li2, he, hd⟩ := rmk_open h hok
  refine spec_RatRest_ret ?_
  unfold spec_RatRest
  intro r w1 hn1 r1 w2 hn2 r2 w3 hn3
  have e1 := hn1.r_eq; have e2 := hn2.r_eq; have e3 := hn3.r_eq; have z1 := hn1.size; have z2 := hn2.size; have z3 := hn3.size
  have X := (hn1.ext.trans hn2.ext).trans hn3.ext
  have b0 := (hn1.blk.ext hn2.ext).ext hn3.ext; have b1 := hn2.blk.ext hn3.ext; have b2 := hn3.blk
  have zlen := rr_len (m := m) hd hN
  have zok := rmk_int_ok (show (digs (rr N D m).natAbs).length ≤ 18 by omega)
  have zred := redR_int (show (digs (rr N D m).natAbs).length ≤ 18 by omega)
  have zrok := redOk_small (n := rr N D m) (d := 1) (by omega) (Nat.le_trans one_len1 (by decide))
  have dok := rest_len (z := rr N D m) hN hD zlen
  refine ⟨_, _, _, _, _, _, _, b0.loadA0 (by kernel_rfl), ?_⟩
  refine Ret.at (spec_RatRound_n (m := m) (hr.ext X) hok) ?_
  rintro v w4 ⟨vs4, f4, hv, ho4, nd4, y4⟩
  subst hv
  have ho4 : Owns w4 w3.heap.size vs4 (enc (rr N D m)) f4 := ho4
  have hr4 := ho4.reps
  obtain ⟨s0, sp, sn, sc, sz, rfl, _, _⟩ := open_Signed hr4 (enc_code _)
  refine ⟨_, _, _, _, _, rfl, ?_⟩
  intro r3 w5 hn5
  have e5 := hn5.r_eq; have z5 := hn5.size; have l4 := y4.le
  obtain ⟨w6, st6, hb6, y6⟩ := hn5.fill (P := P) (t := T_impl_Signed) (xs := [.bool s0, .slice sp sn sc]) (by simp [Value.oneCell']) (by kernel_rfl) rfl
  have Y6 := y4.trans y6
  have l6 := y6.le
  have zero : ∀ W, Ext w6 W → modeOk m = false → ∃ W1, Stores P T_impl_Signed ⟨r1, 0, none⟩ (.agg ⟨[.bool false, .slice none 0 0]⟩) W W1 ∧ ∃ W2, Stores P T_impl_Rat ⟨r2, 0, none⟩ (.agg ⟨[.bool false, .slice none 0 0, .slice none 0 0]⟩) W1 W2 ∧ Loads P T_impl_Signed ⟨r1, 0, none⟩ (.agg ⟨[.bool false, .slice none 0 0]⟩) W2 ∧ Loads P T_impl_Rat ⟨r2, 0, none⟩ (.agg ⟨[.bool false, .slice none 0 0, .slice none 0 0]⟩) W2 ∧ Owns W2 w.heap.size [.bool false, .slice none 0 0] (enc (rr N D m)) [] ∧ Owns W2 w.heap.size [.bool false, .slice none 0 0, .slice none 0 0] (rs N D m) [] ∧ Ext w W2 := by
    intro W hW hno
    have q1 := (b1.ext Y6).ext hW; have q2 := (b2.ext Y6).ext hW
    obtain ⟨W1, W2, a1, _, a2, a3, a4, a5, a6, a7⟩ := two_end (t1 := T_impl_Signed) (t2 := T_impl_Rat) q1 q2 ((X.trans Y6).trans hW) (own_sgn0 W (r2 + 1)) (own_rat0 W (r2 + 1)) (by kernel_rfl) rfl (by kernel_rfl) rfl (by omega) (by omega) (by omega) (by omega) (by omega) (by omega)
    have z1' : rr N D m = 0 := by rw [rr, hno]; rfl
    have z2' : rs N D m = rat0 := by rw [rs, hno]; rfl
    rw [z1', z2']
    exact ⟨W1, a1, W2, a2, a3, a4, a5, a6, a7⟩
  refine ⟨w6, st6, ?_⟩
  have hr6 : Reps w6 [.bool s0, .slice sp sn sc] (enc (rr N D m)) := hr4.ext y6
  refine ⟨_, _, _, _, hb6.loadA0 (by kernel_rfl), ?_⟩
  refine Ret.at (spec_RatInt_n hr6 (by omega)) ?_
  rintro v w7 ⟨vs7, f7, hv, ho7, _, y7⟩
  subst hv
  rw [zred] at ho7
  rw [zrok]
  have hr7 := ho7.reps
  obtain ⟨u0, up, un, uc, uz, up2, un2, uc2, uz2, rfl, _, _, _⟩ := open_Rat hr7 (rmk_code _ _)
  refine ⟨_, _, _, _, _, _, _, _, rfl, ?_⟩
  intro r4 w8 hn8
  have e8 := hn8.r_eq; have z8 := hn8.size; have l7 := y7.le
  obtain ⟨w9, st9, hb9, y9⟩ := hn8.fill (P := P) (t := T_impl_Rat) (xs := [.bool u0, .slice up un uc, .slice up2 un2 uc2]) (by simp [Value.oneCell']) (by kernel_rfl) rfl
  have l9 := y9.le
  have Y9 := (Y6.trans y7).trans y9
  refine ⟨w9, st9, _, _, _, _, _, _, _, (b0.ext Y9).loadA0 (by kernel_rfl), _, _, _, _, _, _, _, hb9.loadA0 (by kernel_rfl), ?_⟩
  refine Ret.at (spec_RatSub_n (hr.ext (X.trans Y9)) (hr7.ext y9) hok zok) ?_
  rintro v w10 ⟨vs10, f10, hv, ho10, nd10, y10⟩
  subst hv
  rw [dok]
  have hr10 := ho10.reps
  obtain ⟨g0, gp, gn, gc, gz, gp2, gn2, gc2, gz2, rfl, _, _, _⟩ := open_Rat hr10 (redR_code _ _)
  refine ⟨_, _, _, _, _, _, _, _, rfl, ?_⟩
  intro r5 w11 hn11
  have e11 := hn11.r_eq; have z11 := hn11.size; have l10 := y10.le
  obtain ⟨w12, st12, hb12, y12⟩ := hn11.fill (P := P) (t := T_impl_Rat) (xs := [.bool g0, .slice gp gn gc, .slice gp2 gn2 gc2]) (by simp [Value.oneCell']) (by kernel_rfl) rfl
  have D' := Ext.drew w12
  have Y12 := ((Y9.trans y10).trans y12).trans D'
  have T12 := (((y7.trans y9).trans y10).trans y12).trans D'
  have q1 := b1.ext Y12; have q2 := b2.ext Y12
  have k3 := hb6.ext T12; have k5 := hb12.ext D'
  have o1 := (ho4.ext y6).ext T12
  have o2 := ((ho10.ext y12).ext D').mono (show w3.heap.size ≤ w9.heap.size by omega)
  have dis : ∀ k ∈ f4, k ∉ f10 := fun k hk hm => by
    have a := (ho4.lt k hk).2
    have b := (ho10.lt k hm).1
    omega
  refine ⟨w12, st12, ?_⟩
  refine ifN (fun hno => ifT (ifT ?_)) (fun hyes => ifN (fun hh => absurd hh (by simp)) (fun _ => ifN (fun hh => absurd hh (by simp)) (fun _ => ?_)))
  · obtain ⟨W1, a1, W2, a2, a3, a4, a5, a6, a7⟩ := zero _ (((y7.trans y9).trans y10).trans y12) hno
    exact ⟨W1, a1, W2, a2, _, _, _, _, a3, _, _, _, _, _, _, _, a4, _, [], _, [], by rw [hno], a5, List.nodup_nil, a6, List.nodup_nil, fun k hk => by simp at hk, a7⟩
  obtain ⟨W1, W2, a1, ch1, a2, a3, a4, a5, a6, a7⟩ := two_end (t1 := T_impl_Signed) (t2 := T_impl_Rat) q1 q2 (X.trans Y12) o1 o2 (by kernel_rfl) rfl (by kernel_rfl) rfl (by omega) (by omega) (by omega) (by omega) (by omega) (by omega)
  have z1' : rr N D m = rround N D m := by rw [rr, hyes]; rfl
  have z2' : rs N D m = restR N D m := by rw [rs, hyes]; rfl
  refine ⟨[r1], _, _, _, _, fun W hW => (k3.chg (show Chg [r1] w12.drew W from hW) (by simp; omega)).loadA0 (by kernel_rfl), _, _, _, _, _, _, _, fun W hW => (k5.chg (show Chg [r1] w12.drew W from hW) (by simp; omega)).loadA0 (by kernel_rfl), W1, a1, show Chg [r1] w12.drew W1 from ch1, W2, a2, _, _, _, _, a3, _, _, _, _, _, _, _, a4, _, f4, _, f10, by rw [hyes], a5, nd4, ?_, nd10, dis, a7⟩
  rw [z2', restR, ← z1']
  exact a6
end Go.Proofs.YtfehpaekbbmkcaaGreatDoor

namespace Go.Proofs.YtfehpaekbbmkcaaGreatDoor
open Go Go.Proofs.YtfehpaekbbmkcaaGreatDoor.Sx
set_option linter.unusedVariables false
set_option linter.unusedSimpArgs false
def taxOk : List D0 → Bool
  | [.bool b, .ints z, .int s] => decOk [.bool b, .ints z, .int s] && decide (z.length ≤ 1) && !b && decide (dcmp [.bool b, .ints z, .int s] (enc 1 ++ [.int 0]) ≤ 0)
  | _ => false
theorem spec_TaxRateOk_c {w : World} {xs : List Value} {dx : List D0} (h : Reps w xs dx) (hc : dx.map D0.code = [.bool, .ints, .int]) :
    Ret P n_spec_TaxRateOk [.agg ⟨xs⟩] w fun v w' => v = .bool (taxOk dx) ∧ Ext w w' := by
  have hr := h
  obtain ⟨a0, a1p, a1n, a1c, a1z, a2, rfl, rfl, ha⟩ := open_Dec h hc
  refine spec_TaxRateOk_ret ?_
  unfold spec_TaxRateOk
  intro r w1 hn1
  have D := Ext.drew w1
  have X := hn1.ext.trans D
  have hl := ha.1
  refine ⟨_, _, _, _, _, fun W hW => (hn1.blk.ext (D.trans hW)).loadA0 (by kernel_rfl), ?_⟩
  refine Ret.at (spec_DecOk_c (hr.ext X) rfl) ?_
  rintro v w2 ⟨hv, y2⟩
  subst hv
  have X2 := X.trans y2
  have b := (hn1.blk.ext D).ext y2
  refine ⟨_, rfl, fun e1 => ⟨_, fun W hW => (b.ext hW).loadAt 0 rfl (by kernel_rfl) rfl, fun e2 => ⟨_, _, _, fun W hW => (b.ext hW).loadAt 1 rfl (by kernel_rfl) rfl, ifD (fun hle => ?_) (fun hgt => ⟨?_, X2⟩)⟩, fun e2 => ifF ⟨?_, X2⟩⟩, fun e1 => ifF (ifF ⟨?_, X2⟩)⟩
  · refine ⟨_, _, _, _, _, fun W hW => (b.ext hW).loadA0 (by kernel_rfl), ?_⟩
    refine Ret.at (spec_IntOf_c (n := 1) (by omega) (by omega)) ?_
    rintro v w3 ⟨vs, f, hv, ho, _, y3⟩
    subst hv
    obtain ⟨g0, gp, gn, gc, gz, rfl, hg, hgi⟩ := open_Signed ho.reps (enc_code _)
    refine ⟨_, _, _, _, rfl, y3, ?_⟩
    have hone : Reps w3 [.bool g0, .slice gp gn gc, .int .i64 0] (enc 1 ++ [.int 0]) := by
      rw [hg]; exact ⟨rfl, ⟨_, _, _, rfl, hgi⟩, rfl, trivial⟩
    refine Ret.at (spec_DecCmp_c (hr.ext (X2.trans y3)) hone rfl rfl) ?_
    rintro v w4 ⟨hv, y4⟩
    subst hv
    refine ⟨_, rfl, ?_, (X2.trans y3).trans y4⟩
    have e2 : a0 = false := by simpa using e2
    subst e2
    simp only [taxOk, e1, show decide (a1z.length ≤ 1) = true by simp; omega, Bool.and_self, Bool.not_false, Bool.true_and]
  · simp only [taxOk, show decide (a1z.length ≤ 1) = false by simp; omega, Bool.and_false, Bool.false_and]
  · have e2 : a0 = true := by simpa using e2
    simp only [taxOk, e2, Bool.not_true, Bool.and_false, Bool.false_and]
  · simp only [taxOk, e1, Bool.false_and]
theorem impl_TaxRateOk_c {w : World} {xs : List Value} {dx : List D0} (h : Reps w xs dx) (hc : dx.map D0.code = [.bool, .ints, .int]) :
    Ret P n_impl_TaxRateOk [.agg ⟨xs⟩] w fun v w' => v = .bool (taxOk dx) ∧ Ext w w' := by
  have hr := h
  obtain ⟨a0, a1p, a1n, a1c, a1z, a2, rfl, rfl, ha⟩ := open_Dec h hc
  refine impl_TaxRateOk_ret ?_
  unfold impl_TaxRateOk
  intro r w1 hn1
  have D := Ext.drew w1
  have X := hn1.ext.trans D
  have hl := ha.1
  refine ⟨_, _, _, _, _, fun W hW => (hn1.blk.ext (D.trans hW)).loadA0 (by kernel_rfl), ?_⟩
  refine Ret.at (impl_DecOk_c (hr.ext X) rfl) ?_
  rintro v w2 ⟨hv, y2⟩
  subst hv
  have X2 := X.trans y2
  have b := (hn1.blk.ext D).ext y2
  refine ⟨_, rfl, fun e1 => ⟨_, _, _, fun W hW => (b.ext hW).loadAt 1 rfl (by kernel_rfl) rfl, ifD (fun hle => ⟨_, fun W hW => (b.ext hW).loadAt 0 rfl (by kernel_rfl) rfl, fun e2 => ?_, fun e2 => ⟨?_, X2⟩⟩) (fun hgt => ifF ⟨?_, X2⟩)⟩, fun e1 => ifF (ifF ⟨?_, X2⟩)⟩
  · refine ⟨_, _, _, _, _, fun W hW => (b.ext hW).loadA0 (by kernel_rfl), ?_⟩
    refine Ret.at (impl_IntOf_c (n := 1) (by omega) (by omega)) ?_
    rintro v w3 ⟨vs, f, hv, ho, _, y3⟩
    subst hv
    obtain ⟨g0, gp, gn, gc, gz, rfl, hg, hgi⟩ := open_Signed ho.reps (enc_code _)
    refine ⟨_, _, _, _, rfl, y3, ?_⟩
    have hone : Reps w3 [.bool g0, .slice gp gn gc, .int .i64 0] (enc 1 ++ [.int 0]) := by
      rw [hg]; exact ⟨rfl, ⟨_, _, _, rfl, hgi⟩, rfl, trivial⟩
    refine Ret.at (impl_DecCmp_c (hr.ext (X2.trans y3)) hone rfl rfl) ?_
    rintro v w4 ⟨hv, y4⟩
    subst hv
    refine ⟨_, rfl, ?_, (X2.trans y3).trans y4⟩
    have e2 : a0 = false := by simpa using e2
    subst e2
    simp only [taxOk, e1, show decide (a1z.length ≤ 1) = true by simp; omega, Bool.and_self, Bool.not_false, Bool.true_and]
  · have e2 : a0 = true := by simpa using e2
    simp only [taxOk, e2, Bool.not_true, Bool.and_false, Bool.false_and]
  · simp only [taxOk, show decide (a1z.length ≤ 1) = false by simp; omega, Bool.and_false, Bool.false_and]
  · simp only [taxOk, e1, Bool.false_and]
end Go.Proofs.YtfehpaekbbmkcaaGreatDoor

namespace Go.Proofs.YtfehpaekbbmkcaaGreatDoor
open Go Go.Proofs.YtfehpaekbbmkcaaGreatDoor.Sx
set_option linter.unusedVariables false
set_option linter.unusedSimpArgs false
theorem impl_RatMoney_n {w : World} {xs : List Value} {N : Int} {D : Nat} {m : Int} (cur : ByteArray) (h : Reps w xs (rmk N D)) (hok : ratOk (rmk N D) = true) (hN : (digs N.natAbs).length ≤ 10) (hD : (digs D).length ≤ 6) (ht : Tab w) :
    Ret P n_impl_RatMoney [.string cur, .agg ⟨xs⟩, .int .i64 m] w fun v w' => ∃ vs1 f1 vs2 f2, v = .tuple #[.agg ⟨vs1⟩, .agg ⟨vs2⟩, .bool (rmOk cur N D m)] ∧ Owns w' w.heap.size vs1 (rmMoney cur N D m) f1 ∧ f1.Nodup ∧ Owns w' w.heap.size vs2 (rmRest cur N D m) f2 ∧ f2.Nodup ∧ (∀ k ∈ f1, k ∉ f2) ∧ Ext w w' := by
  have hr := h
  obtain ⟨p1, n1, c1, p2, n2, c2, rfl, i1, i2, li1, li2, he, hd⟩ := rmk_open h hok
  refine impl_RatMoney_ret ?_
  unfold impl_RatMoney
  intro r w1 hn1 r1 w2 hn2 r2 w3 hn3
  have e1 := hn1.r_eq; have e2 := hn2.r_eq; have e3 := hn3.r_eq; have z1 := hn1.size; have z2 := hn2.size; have z3 := hn3.size
  have X := (hn1.ext.trans hn2.ext).trans hn3.ext
  have b0 := (hn1.blk.ext hn2.ext).ext hn3.ext; have b1 := hn2.blk.ext hn3.ext; have b2 := hn3.blk
  refine ⟨_, _, _, _, _, _, _, b0.loadA0 (by kernel_rfl), ?_⟩
  refine Ret.at (impl_RatRest_n (m := m) (hr.ext X) hok hN hD) ?_
  rintro v w4 ⟨vs4, f4, vsr, fr, hv, ho4, nd4, hor, ndr, dis, y4⟩
  subst hv
  have l4 := y4.le
  have hr4 := ho4.reps; have hrr := hor.reps
  obtain ⟨s0, sp, sn, sc, sz, rfl, _, _⟩ := open_Signed hr4 (enc_code _)
  have rcode : (rs N D m).map D0.code = [.bool, .ints, .ints] := by
    unfold rs
    split
    · exact redR_code _ _
    · rfl
  obtain ⟨g0, gp, gn, gc, gz, gp2, gn2, gc2, gz2, rfl, _, _, _⟩ := open_Rat hrr rcode
  refine ⟨_, _, _, _, _, _, _, _, _, _, _, _, rfl, ?_⟩
  intro r3 w5 hn5 r4 w6 hn6
  have e5 := hn5.r_eq; have z5 := hn5.size; have e6 := hn6.r_eq; have z6 := hn6.size
  obtain ⟨w7, st7, hb7, ch7, sz7⟩ := (hn5.blk.ext hn6.ext).storeA0 (P := P) (t := T_impl_Signed) (xs := [.bool s0, .slice sp sn sc]) (by kernel_rfl) rfl (by simp [Value.oneCell'])
  obtain ⟨w8, st8, hb8, ch8, sz8⟩ := (hn6.blk.chg ch7 (by simp; omega)).storeA0 (P := P) (t := T_impl_Rat) (xs := [.bool g0, .slice gp gn gc, .slice gp2 gn2 gc2]) (by kernel_rfl) rfl (by simp [Value.oneCell'])
  have Z : Ext w4 w8 := ((hn5.ext.trans hn6.ext).chg ch7 (by simp; omega)).chg ch8 (by simp; omega)
  have k3 := hb7.chg ch8 (by simp; omega)
  have lZ := Z.le
  have Y8 := y4.trans Z
  refine ⟨w7, st7, w8, st8, ?_⟩
  refine ifN (fun hm1 => ?_) (fun hm1 => ?_)
  · obtain ⟨W1, W2, a1, _, a2, a3, a4, a5, a6, a7⟩ := two_end (t1 := T_impl_Money) (t2 := T_impl_Rat) (b1.ext Y8) (b2.ext Y8) (X.trans Y8) (own_money0 _ (r2 + 1)) (own_rat0 _ (r2 + 1)) (by kernel_rfl) rfl (by kernel_rfl) rfl (by omega) (by omega) (by omega) (by omega) (by omega) (by omega)
    have hno : rmOk cur N D m = false := by rw [rmOk, hm1]; rfl
    exact ⟨W1, a1, W2, a2, _, _, _, _, _, a3, _, _, _, _, _, _, _, a4, _, [], _, [], by rw [hno], by rw [rmMoney, hno]; exact a5, List.nodup_nil, by rw [rmRest, hno]; exact a6, List.nodup_nil, fun k hk => by simp at hk, a7⟩
  ·
    refine ⟨_, _, _, _, k3.loadA0 (by kernel_rfl), ?_⟩
    refine Ret.at (impl_moneyOf_s (ht.ext (X.trans Y8)) cur (ho4.ext Z) nd4 (show w3.heap.size ≤ w8.heap.size by omega)) ?_
    rintro v w9 ⟨vs9, f9, hv, ho9, nd9, sub9, y9⟩
    subst hv
    have hr9 := ho9.reps
    obtain ⟨m0, m1, mp, mn, mc, mz, rfl, _, _⟩ := open_Money hr9 (moneyMk_code _ _)
    refine ⟨_, _, _, _, _, _, rfl, ?_⟩
    intro r5 w10 hn10
    have e10 := hn10.r_eq; have z10 := hn10.size; have l9 := y9.le
    obtain ⟨w11, st11, hb11, y11⟩ := hn10.fill (P := P) (t := T_impl_Money) (xs := [.string m0, .bool m1, .slice mp mn mc]) (by simp [Value.oneCell']) (by kernel_rfl) rfl
    have Y11 := (Y8.trans y9).trans y11
    refine ⟨w11, st11, ?_⟩
    refine ifN (fun hm2 => ?_) (fun hm2 => ?_)
    · obtain ⟨W1, W2, a1, _, a2, a3, a4, a5, a6, a7⟩ := two_end (t1 := T_impl_Money) (t2 := T_impl_Rat) (b1.ext Y11) (b2.ext Y11) (X.trans Y11) (own_money0 _ (r2 + 1)) (own_rat0 _ (r2 + 1)) (by kernel_rfl) rfl (by kernel_rfl) rfl (by omega) (by omega) (by omega) (by omega) (by omega) (by omega)
      have hno : rmOk cur N D m = false := by
        have z1' : rr N D m = rround N D m := by rw [rr, hm1]; rfl
        rw [z1'] at hm2
        rw [rmOk, hm1, hm2]; rfl
      exact ⟨W1, a1, W2, a2, _, _, _, _, _, a3, _, _, _, _, _, _, _, a4, _, [], _, [], by rw [hno], by rw [rmMoney, hno]; exact a5, List.nodup_nil, by rw [rmRest, hno]; exact a6, List.nodup_nil, fun k hk => by simp at hk, a7⟩
    have D' := Ext.drew w11
    have Y12 := Y11.trans D'
    have q1 := b1.ext Y12; have q2 := b2.ext Y12
    have k4 := hb8.ext ((y9.trans y11).trans D'); have k5 := hb11.ext D'
    have o1 := (ho9.ext y11).ext D'
    have o2 := (hor.ext Z).ext ((y9.trans y11).trans D')
    have l11 := y11.le
    obtain ⟨W1, W2, a1, ch1, a2, a3, a4, a5, a6, a7⟩ := two_end (t1 := T_impl_Money) (t2 := T_impl_Rat) q1 q2 (X.trans Y12) o1 o2 (by kernel_rfl) rfl (by kernel_rfl) rfl (by omega) (by omega) (by omega) (by omega) (by omega) (by omega)
    have z1' : rr N D m = rround N D m := by rw [rr, hm1]; rfl
    rw [z1'] at hm2 a5
    have hyes : rmOk cur N D m = true := by rw [rmOk, hm1, hm2]; rfl
    refine ⟨[r1], _, _, _, _, _, fun W hW => (k5.chg (show Chg [r1] w11.drew W from hW) (by simp; omega)).loadA0 (by kernel_rfl), _, _, _, _, _, _, _, fun W hW => (k4.chg (show Chg [r1] w11.drew W from hW) (by simp; omega)).loadA0 (by kernel_rfl), W1, a1, show Chg [r1] w11.drew W1 from ch1, W2, a2, _, _, _, _, _, a3, _, _, _, _, _, _, _, a4, _, f9, _, fr, by rw [hyes], ?_, nd9, ?_, ndr, fun k hk => dis k (sub9 k hk), a7⟩
    · rw [rmMoney, hyes]
      rw [moneyMk, hm2] at a5
      exact a5
    · rw [rmRest, hyes]
      rw [rs, hm1] at a6
      exact a6
theorem spec_RatMoney_n {w : World} {xs : List Value} {N : Int} {D : Nat} {m : Int} (cur : ByteArray) (h : Reps w xs (rmk N D)) (hok : ratOk (rmk N D) = true) (hN : (digs N.natAbs).length ≤ 10) (hD : (digs D).length ≤ 6) :
    Ret P n_spec_RatMoney [.string cur, .agg ⟨xs⟩, .int .i64 m] w fun v w' => ∃ vs1 f1 vs2 f2, v = .tuple #[.agg ⟨vs1⟩, .agg ⟨vs2⟩, .bool (rmOk cur N D m)] ∧ Owns w' w.heap.size vs1 (rmMoney cur N D m) f1 ∧ f1.Nodup ∧ Owns w' w.heap.size vs2 (rmRest cur N D m) f2 ∧ f2.Nodup ∧ (∀ k ∈ f1, k ∉ f2) ∧ Ext w w' := by
  have hr := h
  obtain ⟨p1, n1, c1, p2, n2, c2, rfl, i1, i2, li1, li2, he, hd⟩ := rmk_open h hok
  refine spec_RatMoney_ret ?_
  unfold spec_RatMoney
  intro r w1 hn1 r1 w2 hn2 r2 w3 hn3
  have e1 := hn1.r_eq; have e2 := hn2.r_eq; have e3 := hn3.r_eq; have z1 := hn1.size; have z2 := hn2.size; have z3 := hn3.size
  have X := (hn1.ext.trans hn2.ext).trans hn3.ext
  have b0 := (hn1.blk.ext hn2.ext).ext hn3.ext; have b1 := hn2.blk.ext hn3.ext; have b2 := hn3.blk
  refine ⟨_, _, _, _, _, _, _, b0.loadA0 (by kernel_rfl), ?_⟩
  refine Ret.at (spec_RatRest_n (m := m) (hr.ext X) hok hN hD) ?_
  rintro v w4 ⟨vs4, f4, vsr, fr, hv, ho4, nd4, hor, ndr, dis, y4⟩
  subst hv
  have l4 := y4.le
  have hr4 := ho4.reps; have hrr := hor.reps
  obtain ⟨s0, sp, sn, sc, sz, rfl, _, _⟩ := open_Signed hr4 (enc_code _)
  have rcode : (rs N D m).map D0.code = [.bool, .ints, .ints] := by
    unfold rs
    split
    · exact redR_code _ _
    · rfl
  obtain ⟨g0, gp, gn, gc, gz, gp2, gn2, gc2, gz2, rfl, _, _, _⟩ := open_Rat hrr rcode
  refine ⟨_, _, _, _, _, _, _, _, _, _, _, _, rfl, ?_⟩
  intro r3 w5 hn5 r4 w6 hn6
  have e5 := hn5.r_eq; have z5 := hn5.size; have e6 := hn6.r_eq; have z6 := hn6.size
  obtain ⟨w7, st7, hb7, ch7, sz7⟩ := (hn5.blk.ext hn6.ext).storeA0 (P := P) (t := T_impl_Signed) (xs := [.bool s0, .slice sp sn sc]) (by kernel_rfl) rfl (by simp [Value.oneCell'])
  obtain ⟨w8, st8, hb8, ch8, sz8⟩ := (hn6.blk.chg ch7 (by simp; omega)).storeA0 (P := P) (t := T_impl_Rat) (xs := [.bool g0, .slice gp gn gc, .slice gp2 gn2 gc2]) (by kernel_rfl) rfl (by simp [Value.oneCell'])
  have Z : Ext w4 w8 := ((hn5.ext.trans hn6.ext).chg ch7 (by simp; omega)).chg ch8 (by simp; omega)
  have k3 := hb7.chg ch8 (by simp; omega)
  have lZ := Z.le
  have Y8 := y4.trans Z
  refine ⟨w7, st7, w8, st8, ?_⟩
  refine ⟨_, _, _, _, k3.loadA0 (by kernel_rfl), ?_⟩
  refine Ret.at (spec_l09Make_s cur (ho4.ext Z) nd4 (show w3.heap.size ≤ w8.heap.size by omega)) ?_
  rintro v w9 ⟨vs9, f9, hv, ho9, nd9, sub9, y9⟩
  subst hv
  have hr9 := ho9.reps
  obtain ⟨m0, m1, mp, mn, mc, mz, rfl, _, _⟩ := open_Money hr9 (moneyMk_code _ _)
  refine ⟨_, _, _, _, _, _, rfl, ?_⟩
  intro r5 w10 hn10
  have e10 := hn10.r_eq; have z10 := hn10.size; have l9 := y9.le
  obtain ⟨w11, st11, hb11, y11⟩ := hn10.fill (P := P) (t := T_impl_Money) (xs := [.string m0, .bool m1, .slice mp mn mc]) (by simp [Value.oneCell']) (by kernel_rfl) rfl
  have Y11 := (Y8.trans y9).trans y11
  refine ⟨w11, st11, ?_⟩
  refine ifN (fun hm1 => ifT ?_) (fun hm1 => ifN (fun hm2 => ?_) (fun hm2 => ?_))
  · obtain ⟨W1, W2, a1, _, a2, a3, a4, a5, a6, a7⟩ := two_end (t1 := T_impl_Money) (t2 := T_impl_Rat) (b1.ext Y11) (b2.ext Y11) (X.trans Y11) (own_money0 _ (r2 + 1)) (own_rat0 _ (r2 + 1)) (by kernel_rfl) rfl (by kernel_rfl) rfl (by omega) (by omega) (by omega) (by omega) (by omega) (by omega)
    have hno : rmOk cur N D m = false := by rw [rmOk, hm1]; rfl
    exact ⟨W1, a1, W2, a2, _, _, _, _, _, a3, _, _, _, _, _, _, _, a4, _, [], _, [], by rw [hno], by rw [rmMoney, hno]; exact a5, List.nodup_nil, by rw [rmRest, hno]; exact a6, List.nodup_nil, fun k hk => by simp at hk, a7⟩
  · obtain ⟨W1, W2, a1, _, a2, a3, a4, a5, a6, a7⟩ := two_end (t1 := T_impl_Money) (t2 := T_impl_Rat) (b1.ext Y11) (b2.ext Y11) (X.trans Y11) (own_money0 _ (r2 + 1)) (own_rat0 _ (r2 + 1)) (by kernel_rfl) rfl (by kernel_rfl) rfl (by omega) (by omega) (by omega) (by omega) (by omega) (by omega)
    have hno : rmOk cur N D m = false := by
      have z1' : rr N D m = rround N D m := by rw [rr, hm1]; rfl
      rw [z1'] at hm2
      rw [rmOk, hm1, hm2]; rfl
    exact ⟨W1, a1, W2, a2, _, _, _, _, _, a3, _, _, _, _, _, _, _, a4, _, [], _, [], by rw [hno], by rw [rmMoney, hno]; exact a5, List.nodup_nil, by rw [rmRest, hno]; exact a6, List.nodup_nil, fun k hk => by simp at hk, a7⟩
  have D' := Ext.drew w11
  have Y12 := Y11.trans D'
  have q1 := b1.ext Y12; have q2 := b2.ext Y12
  have k4 := hb8.ext ((y9.trans y11).trans D'); have k5 := hb11.ext D'
  have o1 := (ho9.ext y11).ext D'
  have o2 := (hor.ext Z).ext ((y9.trans y11).trans D')
  have l11 := y11.le
  obtain ⟨W1, W2, a1, ch1, a2, a3, a4, a5, a6, a7⟩ := two_end (t1 := T_impl_Money) (t2 := T_impl_Rat) q1 q2 (X.trans Y12) o1 o2 (by kernel_rfl) rfl (by kernel_rfl) rfl (by omega) (by omega) (by omega) (by omega) (by omega) (by omega)
  have z1' : rr N D m = rround N D m := by rw [rr, hm1]; rfl
  rw [z1'] at hm2 a5
  have hyes : rmOk cur N D m = true := by rw [rmOk, hm1, hm2]; rfl
  refine ⟨[r1], _, _, _, _, _, fun W hW => (k5.chg (show Chg [r1] w11.drew W from hW) (by simp; omega)).loadA0 (by kernel_rfl), _, _, _, _, _, _, _, fun W hW => (k4.chg (show Chg [r1] w11.drew W from hW) (by simp; omega)).loadA0 (by kernel_rfl), W1, a1, show Chg [r1] w11.drew W1 from ch1, W2, a2, _, _, _, _, _, a3, _, _, _, _, _, _, _, a4, _, f9, _, fr, by rw [hyes], ?_, nd9, ?_, ndr, fun k hk => dis k (sub9 k hk), a7⟩
  · rw [rmMoney, hyes]
    rw [moneyMk, hm2] at a5
    exact a5
  · rw [rmRest, hyes]
    rw [rs, hm1] at a6
    exact a6
theorem impl_DecRat_n {w : World} {xs : List Value} {m t : Nat} (h : Reps w xs (dnn m (t : Int))) (hm : (digs m).length ≤ 6) (ht : t ≤ 30) :
    Ret P n_impl_DecRat [.agg ⟨xs⟩] w fun v w' => ∃ vs f, v = .agg ⟨vs⟩ ∧ Owns w' w.heap.size vs (redR (m : Int) (10 ^ t)) f ∧ f.Nodup ∧ Ext w w' := by
  have hr := h
  obtain ⟨a0, ap, an, ac, az, a2, rfl, hd, ha⟩ := open_Dec h rfl
  simp only [dnn, List.cons.injEq, D0.bool.injEq, D0.ints.injEq, D0.int.injEq, and_true] at hd
  obtain ⟨rfl, rfl, rfl⟩ := hd
  have hla := ha.1
  have hpow : 0 < 10 ^ t := Nat.pow_pos (by decide)
  have hten := ten_len ht
  refine impl_DecRat_ret ?_
  unfold impl_DecRat
  intro r w1 hn1 r1 w2 hn2
  have e1 := hn1.r_eq; have e2 := hn2.r_eq; have z1 := hn1.size; have z2 := hn2.size
  have X := hn1.ext.trans hn2.ext
  have b0 := hn1.blk.ext hn2.ext; have b1 := hn2.blk
  refine ⟨_, _, _, _, _, b0.loadA0 (by kernel_rfl), ?_⟩
  refine Ret.at (impl_DecOk_c (hr.ext X) rfl) ?_
  rintro v w3 ⟨hv, y3⟩
  subst hv
  rw [dnn_ok hm ⟨by omega, by omega⟩]
  refine ⟨_, rfl, ifN (fun hh => absurd hh (by simp)) (fun _ => ?_)⟩
  have D := Ext.drew w3
  have Y := y3.trans D
  have X4 := X.trans Y
  have lY := Y.le
  have b0 := b0.ext Y; have b1 := b1.ext Y
  refine ⟨_, _, _, _, fun W hW => (b0.ext hW).loadAAt 0 [.bool false, .slice ap an ac] rfl (by kernel_rfl) rfl, _, fun W hW => (b0.ext hW).loadAt 2 rfl (by kernel_rfl) rfl, ?_⟩
  intro ss w4 F1
  have S1 := (FlSt.start (o := .cells ⟨[.bool false, .slice none 0 0, .slice none 0 0]⟩ T_impl_Rat (0, 0)) w3.drew).step F1
  refine Ret.at (impl_natTen_c (k := (t : Int)) (by omega) (by omega)) ?_
  rintro v w5 ⟨p5, n5, c5, hv, o5, y5⟩
  subst hv
  rw [Int.toNat_natCast] at o5
  have l5 := o5.ints.1
  refine ⟨_, _, _, rfl, y5, ?_⟩
  intro ss1 w6 F2
  have S2 := (S1.ext y5).step F2
  have hs : Reps w6 [.bool false, .slice ap an ac] (enc (m : Int)) := by
    rw [natCast_enc]
    exact ⟨rfl, ⟨_, _, _, rfl, ha.ext (X4.trans S2.1)⟩, trivial⟩
  refine Ret.at (impl_reduce_c hs (o5.ints.ext F2.ext) hpow (by rw [Int.natAbs_natCast]; omega) (by omega)) ?_
  rintro v w7 ⟨vs7, f7, hv, ho7, nd7, y7⟩
  subst hv
  have hr7 := ho7.reps
  obtain ⟨g0, gp, gn, gc, gz, gp2, gn2, gc2, gz2, rfl, _, _, _⟩ := open_Rat hr7 (redR_code _ _)
  refine ⟨_, _, _, _, _, _, _, _, rfl, ?_⟩
  intro ss2 w8 r8 F3 G
  have S3 := (S2.ext y7).step F3
  obtain ⟨hr8, hbk⟩ := S3.get G
  have B8 : Blk w8 r8 T_impl_Rat [.bool false, .slice none 0 0, .slice none 0 0] := hbk
  obtain ⟨w9, st9, hb9, ch9, sz9⟩ := B8.storeA0 (P := P) (t := T_impl_Rat) (xs := [.bool g0, .slice gp gn gc, .slice gp2 gn2 gc2]) (by kernel_rfl) rfl (by simp [Value.oneCell'])
  have hni := Owns.notin B8 (by decide) (ho7.ext F3.ext)
  have ho9 := (ho7.ext F3.ext).chg ch9 (fun k hk hm' => hni (by simp at hm'; rwa [← hm']))
  have Z9 : Ext w3.drew w9 := S3.1.chg ch9 (by simp; exact hr8)
  have lZ := S2.1.le
  obtain ⟨W', st, ld, ow, xx, _, _⟩ := agg_end (t := T_impl_Rat) (b1.ext Z9) (X4.trans Z9) (by omega) ho9 (by kernel_rfl) rfl (by omega) (by omega)
  exact ⟨w9, st9, _, _, _, _, _, _, _, hb9.loadA0 (by kernel_rfl), W', st, _, _, _, _, _, _, _, ld, _, f7, rfl, ow, nd7, xx⟩
theorem spec_DecRat_n {w : World} {xs : List Value} {m t : Nat} (h : Reps w xs (dnn m (t : Int))) (hm : (digs m).length ≤ 6) (ht : t ≤ 30) :
    Ret P n_spec_DecRat [.agg ⟨xs⟩] w fun v w' => ∃ vs f, v = .agg ⟨vs⟩ ∧ Owns w' w.heap.size vs (redR (m : Int) (10 ^ t)) f ∧ f.Nodup ∧ Ext w w' := by
  have hr := h
  obtain ⟨a0, ap, an, ac, az, a2, rfl, hd, ha⟩ := open_Dec h rfl
  simp only [dnn, List.cons.injEq, D0.bool.injEq, D0.ints.injEq, D0.int.injEq, and_true] at hd
  obtain ⟨rfl, rfl, rfl⟩ := hd
  have hla := ha.1
  have hpow : 0 < 10 ^ t := Nat.pow_pos (by decide)
  have hten := ten_len ht
  refine spec_DecRat_ret ?_
  unfold spec_DecRat
  intro r w1 hn1 r1 w2 hn2
  have e1 := hn1.r_eq; have e2 := hn2.r_eq; have z1 := hn1.size; have z2 := hn2.size
  have X := hn1.ext.trans hn2.ext
  have b0 := hn1.blk.ext hn2.ext; have b1 := hn2.blk
  refine ⟨_, _, _, _, _, b0.loadA0 (by kernel_rfl), ?_⟩
  refine Ret.at (spec_DecOk_c (hr.ext X) rfl) ?_
  rintro v w3 ⟨hv, y3⟩
  subst hv
  rw [dnn_ok hm ⟨by omega, by omega⟩]
  refine ⟨_, rfl, ifN (fun hh => absurd hh (by simp)) (fun _ => ?_)⟩
  have D := Ext.drew w3
  have Y := y3.trans D
  have X4 := X.trans Y
  have lY := Y.le
  have b0 := b0.ext Y; have b1 := b1.ext Y
  refine ⟨_, _, _, _, fun W hW => (b0.ext hW).loadAAt 0 [.bool false, .slice ap an ac] rfl (by kernel_rfl) rfl, _, fun W hW => (b0.ext hW).loadAt 2 rfl (by kernel_rfl) rfl, ?_⟩
  intro ss w4 F1
  have S1 := (FlSt.start (o := .cells ⟨[.bool false, .slice none 0 0, .slice none 0 0]⟩ T_impl_Rat (0, 0)) w3.drew).step F1
  refine Ret.at (spec_l07Ten_c (k := (t : Int)) (by omega) (by omega)) ?_
  rintro v w5 ⟨vs5, f5, hv, o5, _, y5⟩
  subst hv
  rw [Int.toNat_natCast] at o5
  have hr5 := o5.reps
  obtain ⟨s0, sp, sn, sc, sz, rfl, _, _⟩ := open_Signed hr5 (enc_code _)
  refine ⟨_, _, _, _, rfl, y5, ?_⟩
  intro ss1 w6 F2
  have S2 := (S1.ext y5).step F2
  have hs : Reps w6 [.bool false, .slice ap an ac] (enc (m : Int)) := by
    rw [natCast_enc]
    exact ⟨rfl, ⟨_, _, _, rfl, ha.ext (X4.trans S2.1)⟩, trivial⟩
  refine Ret.at (spec_RatMake_n hs (hr5.ext F2.ext) (by rw [Int.natAbs_natCast]; omega) (by omega) hpow) ?_
  rintro v w7 ⟨vs7, f7, hv, ho7, nd7, y7⟩
  subst hv
  have hr7 := ho7.reps
  obtain ⟨g0, gp, gn, gc, gz, gp2, gn2, gc2, gz2, rfl, _, _, _⟩ := open_Rat hr7 (redR_code _ _)
  refine ⟨_, _, _, _, _, _, _, _, rfl, ?_⟩
  intro ss2 w8 r8 F3 G
  have S3 := (S2.ext y7).step F3
  obtain ⟨hr8, hbk⟩ := S3.get G
  have B8 : Blk w8 r8 T_impl_Rat [.bool false, .slice none 0 0, .slice none 0 0] := hbk
  obtain ⟨w9, st9, hb9, ch9, sz9⟩ := B8.storeA0 (P := P) (t := T_impl_Rat) (xs := [.bool g0, .slice gp gn gc, .slice gp2 gn2 gc2]) (by kernel_rfl) rfl (by simp [Value.oneCell'])
  have hni := Owns.notin B8 (by decide) (ho7.ext F3.ext)
  have ho9 := (ho7.ext F3.ext).chg ch9 (fun k hk hm' => hni (by simp at hm'; rwa [← hm']))
  have Z9 : Ext w3.drew w9 := S3.1.chg ch9 (by simp; exact hr8)
  have lZ := S2.1.le
  obtain ⟨W', st, ld, ow, xx, _, _⟩ := agg_end (t := T_impl_Rat) (b1.ext Z9) (X4.trans Z9) (by omega) ho9 (by kernel_rfl) rfl (by omega) (by omega)
  exact ⟨w9, st9, _, _, _, _, _, _, _, hb9.loadA0 (by kernel_rfl), W', st, _, _, _, _, _, _, _, ld, _, f7, rfl, ow, nd7, xx⟩
theorem impl_MoneyRat_n {w : World} {xs : List Value} {c : ByteArray} {N : Int} (h : Reps w xs (.str c :: enc N)) (hok : moneyOk (.str c :: enc N) = true) (ht : Tab w) :
    Ret P n_impl_MoneyRat [.agg ⟨xs⟩] w fun v w' => ∃ vs f, v = .agg ⟨vs⟩ ∧ Owns w' w.heap.size vs (rmk N 1) f ∧ f.Nodup ∧ Ext w w' := by
  have hr := h
  obtain ⟨t0, a0, ap, an, ac, az, rfl, hd, ha⟩ := open_Money h rfl
  simp only [enc, List.cons.injEq, D0.str.injEq, D0.bool.injEq, D0.ints.injEq, and_true] at hd
  obtain ⟨rfl, rfl, rfl⟩ := hd
  have hla := ha.1
  have h4 : (digs N.natAbs).length ≤ 4 := by
    simp only [moneyOk, enc, Bool.and_eq_true, decide_eq_true_eq] at hok
    exact hok.2
  refine impl_MoneyRat_ret ?_
  unfold impl_MoneyRat
  intro r w1 hn1 r1 w2 hn2
  have e1 := hn1.r_eq; have e2 := hn2.r_eq; have z1 := hn1.size; have z2 := hn2.size
  have X := hn1.ext.trans hn2.ext
  have b0 := hn1.blk.ext hn2.ext; have b1 := hn2.blk
  refine ⟨_, _, _, _, _, b0.loadA0 (by kernel_rfl), ?_⟩
  refine Ret.at (impl_MoneyOk_c (ht.ext X) (hr.ext X) rfl) ?_
  rintro v w3 ⟨hv, y3⟩
  subst hv
  rw [hok]
  refine ⟨_, rfl, ifN (fun hh => absurd hh (by simp)) (fun _ => ?_)⟩
  have l3 := y3.le
  have X3 := X.trans y3
  have hs : Reps w3 [.bool (decide (N < 0)), .slice ap an ac] (enc N) := ⟨rfl, ⟨_, _, _, rfl, ha.ext X3⟩, trivial⟩
  refine ⟨_, _, _, _, (b0.ext y3).loadAAt 1 [.bool (decide (N < 0)), .slice ap an ac] rfl (by kernel_rfl) rfl, ?_⟩
  refine Ret.at (impl_intCopy_c hs (enc_code _) (by simp only [bulks, enc, D0.bulk, List.map_cons, List.map_nil, List.sum_cons, List.sum_nil]; omega)) ?_
  rintro v w4 ⟨vs4, f4, hv, ho4, nd4, y4⟩
  subst hv
  have hr4 := ho4.reps
  obtain ⟨s0, sp, sn, sc, sz, rfl, _, _⟩ := open_Signed hr4 (enc_code _)
  refine ⟨_, _, _, _, rfl, ?_⟩
  intro r5 w5 hn5
  have e5 := hn5.r_eq; have z5 := hn5.size; have l4 := y4.le
  have hone : Own w5 w3.heap.size T_int 1 (some ⟨r5, 0, none⟩) 1 1 ((digs 1).map (Value.int .i64)) := by
    rw [digs_one]
    exact Own.of_blk hn5.blk (by omega) rfl (by decide)
  have ho5 := own_rmk (ho4.ext hn5.ext) hone
  obtain ⟨W', st, ld, ow, xx, _, _⟩ := agg_end (t := T_impl_Rat) ((b1.ext y3).ext (y4.trans hn5.ext)) (X3.trans (y4.trans hn5.ext)) (by omega) ho5 (by kernel_rfl) rfl (by omega) (by omega)
  refine ⟨W', st, _, _, _, _, _, _, _, ld, _, _, rfl, ow, ?_, xx⟩
  exact nodup_append nd4 (by simp) (m := w4.heap.size) (fun k hk => (ho4.lt k hk).2) (fun k hk => by simp at hk; omega)
theorem spec_MoneyRat_n {w : World} {xs : List Value} {c : ByteArray} {N : Int} (h : Reps w xs (.str c :: enc N)) (hok : moneyOk (.str c :: enc N) = true) :
    Ret P n_spec_MoneyRat [.agg ⟨xs⟩] w fun v w' => ∃ vs f, v = .agg ⟨vs⟩ ∧ Owns w' w.heap.size vs (rmk N 1) f ∧ f.Nodup ∧ Ext w w' := by
  have hr := h
  obtain ⟨t0, a0, ap, an, ac, az, rfl, hd, ha⟩ := open_Money h rfl
  simp only [enc, List.cons.injEq, D0.str.injEq, D0.bool.injEq, D0.ints.injEq, and_true] at hd
  obtain ⟨rfl, rfl, rfl⟩ := hd
  have hla := ha.1
  have h4 : (digs N.natAbs).length ≤ 4 := by
    simp only [moneyOk, enc, Bool.and_eq_true, decide_eq_true_eq] at hok
    exact hok.2
  refine spec_MoneyRat_ret ?_
  unfold spec_MoneyRat
  intro r w1 hn1 r1 w2 hn2
  have e1 := hn1.r_eq; have e2 := hn2.r_eq; have z1 := hn1.size; have z2 := hn2.size
  have X := hn1.ext.trans hn2.ext
  have b0 := hn1.blk.ext hn2.ext; have b1 := hn2.blk
  refine ⟨_, _, _, _, _, b0.loadA0 (by kernel_rfl), ?_⟩
  refine Ret.at (spec_MoneyOk_c (hr.ext X) rfl) ?_
  rintro v w3 ⟨hv, y3⟩
  subst hv
  rw [hok]
  refine ⟨_, rfl, ifN (fun hh => absurd hh (by simp)) (fun _ => ?_)⟩
  have l3 := y3.le
  have X3 := X.trans y3
  have hs : Reps w3 [.bool (decide (N < 0)), .slice ap an ac] (enc N) := ⟨rfl, ⟨_, _, _, rfl, ha.ext X3⟩, trivial⟩
  refine ⟨_, _, _, _, (b0.ext y3).loadAAt 1 [.bool (decide (N < 0)), .slice ap an ac] rfl (by kernel_rfl) rfl, ?_⟩
  refine Ret.at (spec_RatInt_n hs (by omega)) ?_
  rintro v w4 ⟨vs4, f4, hv, ho4, nd4, y4⟩
  subst hv
  rw [redR_int (by omega)] at ho4
  have hr4 := ho4.reps
  obtain ⟨g0, gp, gn, gc, gz, gp2, gn2, gc2, gz2, rfl, _, _, _⟩ := open_Rat hr4 (rmk_code _ _)
  refine ⟨_, _, _, _, _, _, _, _, rfl, ?_⟩
  intro r5 w5 hn5
  have e5 := hn5.r_eq; have z5 := hn5.size; have l4 := y4.le
  obtain ⟨w6, st6, hb6, y6⟩ := hn5.fill (P := P) (t := T_impl_Rat) (xs := [.bool g0, .slice gp gn gc, .slice gp2 gn2 gc2]) (by simp [Value.oneCell']) (by kernel_rfl) rfl
  obtain ⟨W', st, ld, ow, xx, _, _⟩ := agg_end (t := T_impl_Rat) ((b1.ext y3).ext (y4.trans y6)) (X3.trans (y4.trans y6)) (by omega) (ho4.ext y6) (by kernel_rfl) rfl (by omega) (by omega)
  exact ⟨w6, st6, _, _, _, _, _, _, _, hb6.loadA0 (by kernel_rfl), W', st, _, _, _, _, _, _, _, ld, _, _, rfl, ow, nd4, xx⟩
end Go.Proofs.YtfehpaekbbmkcaaGreatDoor

namespace Go.Proofs.YtfehpaekbbmkcaaGreatDoor
open Go Go.Proofs.YtfehpaekbbmkcaaGreatDoor.Sx
set_option linter.unusedVariables false
set_option linter.unusedSimpArgs false
theorem decOk_parts {b : Bool} {z : List Int} {s : Int} (h : decOk [.bool b, .ints z, .int s] = true) : intOk [.bool b, .ints z] = true ∧ natOk z = true ∧ Limbs z ∧ z.length ≤ 6 ∧ 0 ≤ s ∧ s ≤ 30 := by
  simp only [decOk, Bool.and_eq_true, decide_eq_true_eq] at h
  obtain ⟨⟨h1, h2⟩, h3⟩ := h
  have h4 : natOk z = true := by
    have := h1
    simp only [intOk, Bool.and_eq_true] at this
    exact this.1
  exact ⟨h1, h4, (natOk_spec.1 h4).1.1, h2, h3⟩
theorem taxOk_nn {b : Bool} {z : List Int} {s : Int} (h : taxOk [.bool b, .ints z, .int s] = true) : ∃ m t : Nat, b = false ∧ z = digs m ∧ s = (t : Int) ∧ t ≤ 30 ∧ (val z).toNat = m ∧ s.toNat = t ∧ m < 1000000000 := by
  simp only [taxOk, Bool.and_eq_true, decide_eq_true_eq, Bool.not_eq_true'] at h
  obtain ⟨⟨⟨h1, h2⟩, h3⟩, _⟩ := h
  obtain ⟨_, hno, hz, _, h4, h5⟩ := decOk_parts h1
  have hc := (natOk_spec.1 hno).1
  refine ⟨(val z).toNat, s.toNat, h3, (digs_val hc).symm, by omega, by omega, rfl, rfl, ?_⟩
  have hlt := val_lt hz
  have hp : (1000000000 : Int) ^ z.length ≤ 1000000000 := by
    match z, h2 with
    | [], _ => decide
    | [x], _ =>
      show (1000000000 : Int) ^ 1 ≤ 1000000000
      decide
    | _ :: _ :: _, h2 => simp at h2
  have := val_nonneg hz
  omega
theorem one_len {m : Nat} (h : m < 1000000000) : (digs m).length ≤ 1 := digs_len 1 (by simpa using h)
end Go.Proofs.YtfehpaekbbmkcaaGreatDoor

namespace Go.Proofs.YtfehpaekbbmkcaaGreatDoor
open Go Go.Proofs.YtfehpaekbbmkcaaGreatDoor.Sx
set_option linter.unusedVariables false
set_option linter.unusedSimpArgs false
def exN (u : Int) (m t : Nat) : Int := redN (u * redN (m : Int) (10 ^ t)) (1 * redD (m : Int) (10 ^ t))
def exD (u : Int) (m t : Nat) : Nat := redD (u * redN (m : Int) (10 ^ t)) (1 * redD (m : Int) (10 ^ t))
def taxOnT : List D0 → List D0 → Int → Bool × List D0 × List D0
  | [.str c, .bool b, .ints z], [.bool b2, .ints z2, .int s], mode =>
    if moneyOk [.str c, .bool b, .ints z] && taxOk [.bool b2, .ints z2, .int s] then
      (rmOk c (exN (ival [.bool b, .ints z]) (val z2).toNat s.toNat) (exD (ival [.bool b, .ints z]) (val z2).toNat s.toNat) mode,
       rmMoney c (exN (ival [.bool b, .ints z]) (val z2).toNat s.toNat) (exD (ival [.bool b, .ints z]) (val z2).toNat s.toNat) mode,
       rmRest c (exN (ival [.bool b, .ints z]) (val z2).toNat s.toNat) (exD (ival [.bool b, .ints z]) (val z2).toNat s.toNat) mode)
    else (false, zeroMoney, rat0)
  | _, _, _ => (false, zeroMoney, rat0)
theorem rmMoney_code (c : ByteArray) (N : Int) (D : Nat) (m : Int) : (rmMoney c N D m).map D0.code = [.str, .bool, .ints] := by unfold rmMoney; split <;> rfl
theorem restR_code (N : Int) (D : Nat) (m : Int) : (restR N D m).map D0.code = [.bool, .ints, .ints] := redR_code _ _
theorem rmRest_code (c : ByteArray) (N : Int) (D : Nat) (m : Int) : (rmRest c N D m).map D0.code = [.bool, .ints, .ints] := by
  unfold rmRest
  split
  · exact restR_code _ _ _
  · rfl
theorem redR_cnt (n : Int) (d : Nat) : tcnts (redR n d) ≤ 100 := by
  unfold redR
  split
  · rename_i h
    simp only [redOk, Bool.and_eq_true, decide_eq_true_eq] at h
    simp only [rmk, tcnts, redN_abs]
    have : redD n d = d / Nat.gcd n.natAbs d := rfl
    rw [this]
    omega
  · decide
theorem rmMoney_cnt (c : ByteArray) (N : Int) (D : Nat) (m : Int) : tcnts (rmMoney c N D m) ≤ 1000000000 := by
  unfold rmMoney
  split
  · rename_i h
    simp only [rmOk, Bool.and_eq_true] at h
    have h2 := h.2
    simp only [moneyOk, enc, Bool.and_eq_true, decide_eq_true_eq] at h2
    simp only [enc, tcnts]
    omega
  · decide
theorem rmRest_cnt (c : ByteArray) (N : Int) (D : Nat) (m : Int) : tcnts (rmRest c N D m) ≤ 1000000000 := by
  unfold rmRest
  split
  · have := redR_cnt (N * ((1 : Nat) : Int) + -(rround N D m) * (D : Int)) (D * 1)
    unfold restR
    omega
  · decide
theorem taxOnT_facts (d0 d1 : List D0) (m : Int) : ((taxOnT d0 d1 m).2.1).map D0.code = [.str, .bool, .ints] ∧ tcnts (taxOnT d0 d1 m).2.1 ≤ 1000000000 ∧ ((taxOnT d0 d1 m).2.2).map D0.code = [.bool, .ints, .ints] ∧ tcnts (taxOnT d0 d1 m).2.2 ≤ 1000000000 := by
  unfold taxOnT
  split
  · split
    · exact ⟨rmMoney_code _ _ _ _, rmMoney_cnt _ _ _ _, rmRest_code _ _ _ _, rmRest_cnt _ _ _ _⟩
    · exact ⟨rfl, by decide, rfl, by decide⟩
  · exact ⟨rfl, by decide, rfl, by decide⟩
theorem ex_facts {u : Int} {m t : Nat} (hu : (digs u.natAbs).length ≤ 4) (hm : (digs m).length ≤ 1) (ht : t ≤ 30) :
    redOk (u * redN (m : Int) (10 ^ t)) (1 * redD (m : Int) (10 ^ t)) = true ∧ redR (u * redN (m : Int) (10 ^ t)) (1 * redD (m : Int) (10 ^ t)) = rmk (exN u m t) (exD u m t) ∧ ratOk (rmk (exN u m t) (exD u m t)) = true ∧ (digs (exN u m t).natAbs).length ≤ 10 ∧ (digs (exD u m t)).length ≤ 6 ∧
    redR (m : Int) (10 ^ t) = rmk (redN (m : Int) (10 ^ t)) (redD (m : Int) (10 ^ t)) ∧ ratOk (rmk (redN (m : Int) (10 ^ t)) (redD (m : Int) (10 ^ t))) = true := by
  have hpow : 0 < 10 ^ t := Nat.pow_pos (by decide)
  have hten := ten_len ht
  have h1 : (digs (redN (m : Int) (10 ^ t)).natAbs).length ≤ 1 := Nat.le_trans redN_len (by rw [Int.natAbs_natCast]; exact hm)
  have h2 : (digs (redD (m : Int) (10 ^ t))).length ≤ 4 := Nat.le_trans redD_len hten
  have h3 : (digs (u * redN (m : Int) (10 ^ t)).natAbs).length ≤ 5 := by rw [Int.natAbs_mul]; exact prod_len hu h1
  have h4 : (digs (1 * redD (m : Int) (10 ^ t))).length ≤ 4 := by rw [Nat.one_mul]; exact h2
  have hd : 0 < redD (m : Int) (10 ^ t) := redD_pos hpow
  have k1 := redOk_small (n := u * redN (m : Int) (10 ^ t)) (d := 1 * redD (m : Int) (10 ^ t)) (by omega) (by omega)
  have k2 := redR_yes k1
  have k3 := redR_ok (n := u * redN (m : Int) (10 ^ t)) (d := 1 * redD (m : Int) (10 ^ t)) (by omega) k1
  have k4 := redOk_small (n := (m : Int)) (d := 10 ^ t) (by rw [Int.natAbs_natCast]; omega) (by omega)
  have k5 := redR_yes k4
  have k6 := redR_ok hpow k4
  have k7 : (digs (exN u m t).natAbs).length ≤ 5 := Nat.le_trans redN_len h3
  have k8 : (digs (exD u m t)).length ≤ 4 := Nat.le_trans redD_len h4
  exact ⟨k1, k2, by rw [k2] at k3; exact k3, by omega, by omega, k5, by rw [k5] at k6; exact k6⟩
theorem impl_TaxOn_o {w : World} {xs ys : List Value} {dx dy : List D0} (h : Reps w xs dx) (g : Reps w ys dy) (hc : dx.map D0.code = [.str, .bool, .ints]) (gc : dy.map D0.code = [.bool, .ints, .int]) (mode : Int) (ht : Tab w) :
    Ret P n_impl_TaxOn [.agg ⟨xs⟩, .agg ⟨ys⟩, .int .i64 mode] w fun v w' => ∃ vs0 f0 vs1 f1, v = .tuple #[.agg ⟨vs0⟩, .agg ⟨vs1⟩, .bool (taxOnT dx dy mode).1] ∧ Owns w' w.heap.size vs0 (taxOnT dx dy mode).2.1 f0 ∧ f0.Nodup ∧ Owns w' w.heap.size vs1 (taxOnT dx dy mode).2.2 f1 ∧ f1.Nodup ∧ (∀ k ∈ f0, k ∉ f1) ∧ Ext w w' := by
  have hr := h; have gr := g; have htb := ht
  obtain ⟨cur, a0, ap, an, ac, az, rfl, rfl, ha⟩ := open_Money h hc
  obtain ⟨b0', bp, bn, bc, bz, b2', rfl, rfl, hb⟩ := open_Dec g gc
  refine impl_TaxOn_ret ?_
  unfold impl_TaxOn
  intro r w1 hn1 r1 w2 hn2 r2 w3 hn3 r3 w4 hn4
  have e1 := hn1.r_eq; have e2 := hn2.r_eq; have e3 := hn3.r_eq; have e4 := hn4.r_eq; have z1 := hn1.size; have z2 := hn2.size; have z3 := hn3.size; have z4 := hn4.size
  have X := ((hn1.ext.trans hn2.ext).trans hn3.ext).trans hn4.ext
  have b0 := ((hn1.blk.ext hn2.ext).ext hn3.ext).ext hn4.ext; have b1 := (hn2.blk.ext hn3.ext).ext hn4.ext; have b2 := hn3.blk.ext hn4.ext; have b3 := hn4.blk
  have zero : ∀ W, Ext w4 W → (moneyOk [.str cur, .bool a0, .ints az] && taxOk [.bool b0', .ints bz, .int b2']) = false → ∃ W1, Stores P T_impl_Money ⟨r2, 0, none⟩ (.agg ⟨[.string ByteArray.empty, .bool false, .slice none 0 0]⟩) W W1 ∧ ∃ W2, Stores P T_impl_Rat ⟨r3, 0, none⟩ (.agg ⟨[.bool false, .slice none 0 0, .slice none 0 0]⟩) W1 W2 ∧ Loads P T_impl_Money ⟨r2, 0, none⟩ (.agg ⟨[.string ByteArray.empty, .bool false, .slice none 0 0]⟩) W2 ∧ Loads P T_impl_Rat ⟨r3, 0, none⟩ (.agg ⟨[.bool false, .slice none 0 0, .slice none 0 0]⟩) W2 ∧ Owns W2 w.heap.size [.string ByteArray.empty, .bool false, .slice none 0 0] zeroMoney [] ∧ Owns W2 w.heap.size [.bool false, .slice none 0 0, .slice none 0 0] rat0 [] ∧ Ext w W2 ∧ taxOnT [.str cur, .bool a0, .ints az] [.bool b0', .ints bz, .int b2'] mode = (false, zeroMoney, rat0) := by
    intro W hW hno
    obtain ⟨W1, W2, a1, _, a2, a3, a4, a5, a6, a7⟩ := two_end (t1 := T_impl_Money) (t2 := T_impl_Rat) (b2.ext hW) (b3.ext hW) (X.trans hW) (own_money0 W (r3 + 1)) (own_rat0 W (r3 + 1)) (by kernel_rfl) rfl (by kernel_rfl) rfl (by omega) (by omega) (by omega) (by omega) (by omega) (by omega)
    exact ⟨W1, a1, W2, a2, a3, a4, a5, a6, a7, by simp only [taxOnT, hno, Bool.false_eq_true, if_false]⟩
  refine ⟨_, _, _, _, _, b0.loadA0 (by kernel_rfl), ?_⟩
  refine Ret.at (impl_MoneyOk_c (ht.ext X) (hr.ext X) rfl) ?_
  rintro v w5 ⟨hv, y5⟩
  subst hv
  refine ⟨_, rfl, ifN (fun hno => ifT ?_) (fun hm => ⟨_, _, _, _, _, (b1.ext y5).loadA0 (by kernel_rfl), ?_⟩)⟩
  · obtain ⟨W1, a1, W2, a2, a3, a4, a5, a6, a7, a8⟩ := zero _ y5 (by rw [hno]; rfl)
    rw [a8]
    exact ⟨W1, a1, W2, a2, _, _, _, _, _, a3, _, _, _, _, _, _, _, a4, _, [], _, [], rfl, a5, List.nodup_nil, a6, List.nodup_nil, fun k hk => by simp at hk, a7⟩
  refine Ret.at (impl_TaxRateOk_c (gr.ext (X.trans y5)) rfl) ?_
  rintro v w6 ⟨hv, y6⟩
  subst hv
  have Y6 := y5.trans y6
  refine ⟨_, rfl, ifN (fun hno => ?_) (fun ht => ?_)⟩
  · obtain ⟨W1, a1, W2, a2, a3, a4, a5, a6, a7, a8⟩ := zero _ Y6 (by rw [hno, Bool.and_false])
    rw [a8]
    exact ⟨W1, a1, W2, a2, _, _, _, _, _, a3, _, _, _, _, _, _, _, a4, _, [], _, [], rfl, a5, List.nodup_nil, a6, List.nodup_nil, fun k hk => by simp at hk, a7⟩
  have hres : taxOnT [.str cur, .bool a0, .ints az] [.bool b0', .ints bz, .int b2'] mode = (rmOk cur (exN (ival [.bool a0, .ints az]) (val bz).toNat b2'.toNat) (exD (ival [.bool a0, .ints az]) (val bz).toNat b2'.toNat) mode, rmMoney cur (exN (ival [.bool a0, .ints az]) (val bz).toNat b2'.toNat) (exD (ival [.bool a0, .ints az]) (val bz).toNat b2'.toNat) mode, rmRest cur (exN (ival [.bool a0, .ints az]) (val bz).toNat b2'.toNat) (exD (ival [.bool a0, .ints az]) (val bz).toNat b2'.toNat) mode) := by
    simp only [taxOnT, hm, ht, Bool.and_self, if_true]
  rw [hres]
  obtain ⟨m, t, rfl, rfl, rfl, ht30, em, et, hm9⟩ := taxOk_nn ht
  rw [em, et]
  have henc := (intOk_enc (moneyOk_int hm)).1
  generalize ival [.bool a0, .ints az] = U at henc
  have hm' : moneyOk (.str cur :: enc U) = true := by rw [← henc]; exact hm
  have hl4 : (digs U.natAbs).length ≤ 4 := by
    simp only [moneyOk, enc, Bool.and_eq_true, decide_eq_true_eq] at hm'
    exact hm'.2
  obtain ⟨k1, k2, k3, k4, k5, k6, k7⟩ := ex_facts hl4 (one_len hm9) ht30
  unfold impl_TaxOn_j0
  have D := Ext.drew w6
  have Y := Y6.trans D
  have X7 := X.trans Y
  have lY := Y.le
  have b0 := b0.ext Y; have b1 := b1.ext Y; have b2 := b2.ext Y; have b3 := b3.ext Y
  refine ⟨_, _, _, _, _, fun W hW => (b0.ext hW).loadA0 (by kernel_rfl), ?_⟩
  intro ss w8 F1
  have S1 := (FlSt.start (o := .cells ⟨[.bool false, .slice none 0 0, .slice none 0 0]⟩ T_impl_Rat (0, 0)) w6.drew).step F1
  have hmr : Reps w8 [.string cur, .bool a0, .slice ap an ac] (.str cur :: enc U) := by
    rw [← henc]
    exact hr.ext (X7.trans S1.1)
  refine Ret.at (impl_MoneyRat_n hmr hm' (htb.ext (X7.trans S1.1))) ?_
  rintro v w9 ⟨vs9, f9, hv, ho9, _, y9⟩
  subst hv
  have hr9 := ho9.reps
  obtain ⟨s0, sp, sn, sc, sz, sp2, sn2, sc2, sz2, rfl, _, _, _⟩ := open_Rat hr9 (rmk_code _ _)
  refine ⟨_, _, _, _, _, _, _, rfl, y9, _, _, _, _, _, fun W hW => (b1.ext hW).loadA0 (by kernel_rfl), ?_⟩
  intro ss1 w10 F2
  have S2 := (S1.ext y9).step F2
  have hdr : Reps w10 [.bool false, .slice bp bn bc, .int .i64 (t : Int)] (dnn m (t : Int)) := gr.ext (X7.trans S2.1)
  refine Ret.at (impl_DecRat_n hdr (Nat.le_trans (one_len hm9) (by decide)) ht30) ?_
  rintro v w11 ⟨vs11, f11, hv, ho11, _, y11⟩
  subst hv
  rw [k6] at ho11
  have hr11 := ho11.reps
  obtain ⟨u0, up, un, uc, uz, up2, un2, uc2, uz2, rfl, _, _, _⟩ := open_Rat hr11 (rmk_code _ _)
  refine ⟨_, _, _, _, _, _, _, rfl, ?_⟩
  intro ss2 w12 F3
  have S3 := (S2.ext y11).step F3
  refine Ret.at (impl_RatMul_n (hr9.ext ((F2.ext.trans y11).trans F3.ext)) (hr11.ext F3.ext) (rmk_int_ok (by omega)) k7) ?_
  rintro v w13 ⟨vs13, f13, hv, ho13, _, y13⟩
  subst hv
  rw [k2] at ho13
  rw [k1]
  have hr13 := ho13.reps
  obtain ⟨g0, gp, gn, gc', gz, gp2, gn2, gc2, gz2, rfl, _, _, _⟩ := open_Rat hr13 (rmk_code _ _)
  refine ⟨_, _, _, _, _, _, _, _, rfl, ?_⟩
  intro ss3 w14 r8 F4 G
  have S4 := (S3.ext y13).step F4
  obtain ⟨hr8, hbk⟩ := S4.get G
  have B8 : Blk w14 r8 T_impl_Rat [.bool false, .slice none 0 0, .slice none 0 0] := hbk
  obtain ⟨w15, st15, hb15, ch15, sz15⟩ := B8.storeA0 (P := P) (t := T_impl_Rat) (xs := [.bool g0, .slice gp gn gc', .slice gp2 gn2 gc2]) (by kernel_rfl) rfl (by simp [Value.oneCell'])
  have hni := Owns.notin B8 (by decide) (ho13.ext F4.ext)
  have ho15 := (ho13.ext F4.ext).chg ch15 (fun k hk hm' => hni (by simp at hm'; rwa [← hm']))
  have Z : Ext w6.drew w15 := S4.1.chg ch15 (by simp; exact hr8)
  have X15 := X7.trans Z
  have lZ := Z.le
  refine ⟨w15, st15, ?_⟩
  refine ifN (fun hh => absurd hh (by simp)) (fun _ => ?_)
  refine ⟨_, (b0.ext Z).loadAt 0 rfl (by kernel_rfl) rfl, _, _, _, _, _, _, _, hb15.loadA0 (by kernel_rfl), ?_⟩
  refine Ret.at (impl_RatMoney_n (m := mode) cur ho15.reps k3 k4 k5 (htb.ext X15)) ?_
  rintro v w16 ⟨vs16, f16, vsr, fr, hv, ho16, nd16, hor, ndr, dis, y16⟩
  subst hv
  have hr16 := ho16.reps; have hrr := hor.reps
  obtain ⟨m0, m1, mp, mn, mc, mz, rfl, _, _⟩ := open_Money hr16 (rmMoney_code _ _ _ _)
  obtain ⟨v0, vp, vn, vc, vz, vp2, vn2, vc2, vz2, rfl, _, _, _⟩ := open_Rat hrr (rmRest_code _ _ _ _)
  have Y16 := Z.trans y16
  obtain ⟨W1, W2, a1, _, a2, a3, a4, a5, a6, a7⟩ := two_end (t1 := T_impl_Money) (t2 := T_impl_Rat) (b2.ext Y16) (b3.ext Y16) (X7.trans Y16) ho16 hor (by kernel_rfl) rfl (by kernel_rfl) rfl (by omega) (by omega) (by omega) (by omega) (by omega) (by omega)
  exact ⟨_, _, _, _, _, _, _, _, _, _, _, _, _, rfl, W1, a1, W2, a2, _, _, _, _, _, a3, _, _, _, _, _, _, _, a4, _, f16, _, fr, rfl, a5, nd16, a6, ndr, dis, a7⟩
theorem spec_TaxOn_o {w : World} {xs ys : List Value} {dx dy : List D0} (h : Reps w xs dx) (g : Reps w ys dy) (hc : dx.map D0.code = [.str, .bool, .ints]) (gc : dy.map D0.code = [.bool, .ints, .int]) (mode : Int) :
    Ret P n_spec_TaxOn [.agg ⟨xs⟩, .agg ⟨ys⟩, .int .i64 mode] w fun v w' => ∃ vs0 f0 vs1 f1, v = .tuple #[.agg ⟨vs0⟩, .agg ⟨vs1⟩, .bool (taxOnT dx dy mode).1] ∧ Owns w' w.heap.size vs0 (taxOnT dx dy mode).2.1 f0 ∧ f0.Nodup ∧ Owns w' w.heap.size vs1 (taxOnT dx dy mode).2.2 f1 ∧ f1.Nodup ∧ (∀ k ∈ f0, k ∉ f1) ∧ Ext w w' := by
  have hr := h; have gr := g
  obtain ⟨cur, a0, ap, an, ac, az, rfl, rfl, ha⟩ := open_Money h hc
  obtain ⟨b0', bp, bn, bc, bz, b2', rfl, rfl, hb⟩ := open_Dec g gc
  refine spec_TaxOn_ret ?_
  unfold spec_TaxOn
  intro r w1 hn1 r1 w2 hn2 r2 w3 hn3 r3 w4 hn4
  have e1 := hn1.r_eq; have e2 := hn2.r_eq; have e3 := hn3.r_eq; have e4 := hn4.r_eq; have z1 := hn1.size; have z2 := hn2.size; have z3 := hn3.size; have z4 := hn4.size
  have X := ((hn1.ext.trans hn2.ext).trans hn3.ext).trans hn4.ext
  have b0 := ((hn1.blk.ext hn2.ext).ext hn3.ext).ext hn4.ext; have b1 := (hn2.blk.ext hn3.ext).ext hn4.ext; have b2 := hn3.blk.ext hn4.ext; have b3 := hn4.blk
  have zero : ∀ W, Ext w4 W → (moneyOk [.str cur, .bool a0, .ints az] && taxOk [.bool b0', .ints bz, .int b2']) = false → ∃ W1, Stores P T_impl_Money ⟨r2, 0, none⟩ (.agg ⟨[.string ByteArray.empty, .bool false, .slice none 0 0]⟩) W W1 ∧ ∃ W2, Stores P T_impl_Rat ⟨r3, 0, none⟩ (.agg ⟨[.bool false, .slice none 0 0, .slice none 0 0]⟩) W1 W2 ∧ Loads P T_impl_Money ⟨r2, 0, none⟩ (.agg ⟨[.string ByteArray.empty, .bool false, .slice none 0 0]⟩) W2 ∧ Loads P T_impl_Rat ⟨r3, 0, none⟩ (.agg ⟨[.bool false, .slice none 0 0, .slice none 0 0]⟩) W2 ∧ Owns W2 w.heap.size [.string ByteArray.empty, .bool false, .slice none 0 0] zeroMoney [] ∧ Owns W2 w.heap.size [.bool false, .slice none 0 0, .slice none 0 0] rat0 [] ∧ Ext w W2 ∧ taxOnT [.str cur, .bool a0, .ints az] [.bool b0', .ints bz, .int b2'] mode = (false, zeroMoney, rat0) := by
    intro W hW hno
    obtain ⟨W1, W2, a1, _, a2, a3, a4, a5, a6, a7⟩ := two_end (t1 := T_impl_Money) (t2 := T_impl_Rat) (b2.ext hW) (b3.ext hW) (X.trans hW) (own_money0 W (r3 + 1)) (own_rat0 W (r3 + 1)) (by kernel_rfl) rfl (by kernel_rfl) rfl (by omega) (by omega) (by omega) (by omega) (by omega) (by omega)
    exact ⟨W1, a1, W2, a2, a3, a4, a5, a6, a7, by simp only [taxOnT, hno, Bool.false_eq_true, if_false]⟩
  refine ⟨_, _, _, _, _, b0.loadA0 (by kernel_rfl), ?_⟩
  refine Ret.at (spec_MoneyOk_c (hr.ext X) rfl) ?_
  rintro v w5 ⟨hv, y5⟩
  subst hv
  refine ⟨_, rfl, ifN (fun hno => ifT ?_) (fun hm => ⟨_, _, _, _, _, (b1.ext y5).loadA0 (by kernel_rfl), ?_⟩)⟩
  · obtain ⟨W1, a1, W2, a2, a3, a4, a5, a6, a7, a8⟩ := zero _ y5 (by rw [hno]; rfl)
    rw [a8]
    exact ⟨W1, a1, W2, a2, _, _, _, _, _, a3, _, _, _, _, _, _, _, a4, _, [], _, [], rfl, a5, List.nodup_nil, a6, List.nodup_nil, fun k hk => by simp at hk, a7⟩
  refine Ret.at (spec_TaxRateOk_c (gr.ext (X.trans y5)) rfl) ?_
  rintro v w6 ⟨hv, y6⟩
  subst hv
  have Y6 := y5.trans y6
  refine ⟨_, rfl, ifN (fun hno => ?_) (fun ht => ?_)⟩
  · obtain ⟨W1, a1, W2, a2, a3, a4, a5, a6, a7, a8⟩ := zero _ Y6 (by rw [hno, Bool.and_false])
    rw [a8]
    exact ⟨W1, a1, W2, a2, _, _, _, _, _, a3, _, _, _, _, _, _, _, a4, _, [], _, [], rfl, a5, List.nodup_nil, a6, List.nodup_nil, fun k hk => by simp at hk, a7⟩
  have hres : taxOnT [.str cur, .bool a0, .ints az] [.bool b0', .ints bz, .int b2'] mode = (rmOk cur (exN (ival [.bool a0, .ints az]) (val bz).toNat b2'.toNat) (exD (ival [.bool a0, .ints az]) (val bz).toNat b2'.toNat) mode, rmMoney cur (exN (ival [.bool a0, .ints az]) (val bz).toNat b2'.toNat) (exD (ival [.bool a0, .ints az]) (val bz).toNat b2'.toNat) mode, rmRest cur (exN (ival [.bool a0, .ints az]) (val bz).toNat b2'.toNat) (exD (ival [.bool a0, .ints az]) (val bz).toNat b2'.toNat) mode) := by
    simp only [taxOnT, hm, ht, Bool.and_self, if_true]
  rw [hres]
  obtain ⟨m, t, rfl, rfl, rfl, ht30, em, et, hm9⟩ := taxOk_nn ht
  rw [em, et]
  have henc := (intOk_enc (moneyOk_int hm)).1
  generalize ival [.bool a0, .ints az] = U at henc
  have hm' : moneyOk (.str cur :: enc U) = true := by rw [← henc]; exact hm
  have hl4 : (digs U.natAbs).length ≤ 4 := by
    simp only [moneyOk, enc, Bool.and_eq_true, decide_eq_true_eq] at hm'
    exact hm'.2
  obtain ⟨k1, k2, k3, k4, k5, k6, k7⟩ := ex_facts hl4 (one_len hm9) ht30
  unfold spec_TaxOn_j0
  have D := Ext.drew w6
  have Y := Y6.trans D
  have X7 := X.trans Y
  have lY := Y.le
  have b0 := b0.ext Y; have b1 := b1.ext Y; have b2 := b2.ext Y; have b3 := b3.ext Y
  refine ⟨_, _, _, _, _, fun W hW => (b0.ext hW).loadA0 (by kernel_rfl), ?_⟩
  intro ss w8 F1
  have S1 := (FlSt.start (o := .cells ⟨[.bool false, .slice none 0 0, .slice none 0 0]⟩ T_impl_Rat (0, 0)) w6.drew).step F1
  have hmr : Reps w8 [.string cur, .bool a0, .slice ap an ac] (.str cur :: enc U) := by
    rw [← henc]
    exact hr.ext (X7.trans S1.1)
  refine Ret.at (spec_MoneyRat_n hmr hm' ) ?_
  rintro v w9 ⟨vs9, f9, hv, ho9, _, y9⟩
  subst hv
  have hr9 := ho9.reps
  obtain ⟨s0, sp, sn, sc, sz, sp2, sn2, sc2, sz2, rfl, _, _, _⟩ := open_Rat hr9 (rmk_code _ _)
  refine ⟨_, _, _, _, _, _, _, rfl, y9, _, _, _, _, _, fun W hW => (b1.ext hW).loadA0 (by kernel_rfl), ?_⟩
  intro ss1 w10 F2
  have S2 := (S1.ext y9).step F2
  have hdr : Reps w10 [.bool false, .slice bp bn bc, .int .i64 (t : Int)] (dnn m (t : Int)) := gr.ext (X7.trans S2.1)
  refine Ret.at (spec_DecRat_n hdr (Nat.le_trans (one_len hm9) (by decide)) ht30) ?_
  rintro v w11 ⟨vs11, f11, hv, ho11, _, y11⟩
  subst hv
  rw [k6] at ho11
  have hr11 := ho11.reps
  obtain ⟨u0, up, un, uc, uz, up2, un2, uc2, uz2, rfl, _, _, _⟩ := open_Rat hr11 (rmk_code _ _)
  refine ⟨_, _, _, _, _, _, _, rfl, ?_⟩
  intro ss2 w12 F3
  have S3 := (S2.ext y11).step F3
  refine Ret.at (spec_RatMul_n (hr9.ext ((F2.ext.trans y11).trans F3.ext)) (hr11.ext F3.ext) (rmk_int_ok (by omega)) k7) ?_
  rintro v w13 ⟨vs13, f13, hv, ho13, _, y13⟩
  subst hv
  rw [k2] at ho13
  rw [k1]
  have hr13 := ho13.reps
  obtain ⟨g0, gp, gn, gc', gz, gp2, gn2, gc2, gz2, rfl, _, _, _⟩ := open_Rat hr13 (rmk_code _ _)
  refine ⟨_, _, _, _, _, _, _, _, rfl, ?_⟩
  intro ss3 w14 r8 F4 G
  have S4 := (S3.ext y13).step F4
  obtain ⟨hr8, hbk⟩ := S4.get G
  have B8 : Blk w14 r8 T_impl_Rat [.bool false, .slice none 0 0, .slice none 0 0] := hbk
  obtain ⟨w15, st15, hb15, ch15, sz15⟩ := B8.storeA0 (P := P) (t := T_impl_Rat) (xs := [.bool g0, .slice gp gn gc', .slice gp2 gn2 gc2]) (by kernel_rfl) rfl (by simp [Value.oneCell'])
  have hni := Owns.notin B8 (by decide) (ho13.ext F4.ext)
  have ho15 := (ho13.ext F4.ext).chg ch15 (fun k hk hm' => hni (by simp at hm'; rwa [← hm']))
  have Z : Ext w6.drew w15 := S4.1.chg ch15 (by simp; exact hr8)
  have X15 := X7.trans Z
  have lZ := Z.le
  refine ⟨w15, st15, ?_⟩
  refine ⟨_, (b0.ext Z).loadAt 0 rfl (by kernel_rfl) rfl, _, _, _, _, _, _, _, hb15.loadA0 (by kernel_rfl), ?_⟩
  refine Ret.at (spec_RatMoney_n (m := mode) cur ho15.reps k3 k4 k5) ?_
  rintro v w16 ⟨vs16, f16, vsr, fr, hv, ho16, nd16, hor, ndr, dis, y16⟩
  subst hv
  have hr16 := ho16.reps; have hrr := hor.reps
  obtain ⟨m0, m1, mp, mn, mc, mz, rfl, _, _⟩ := open_Money hr16 (rmMoney_code _ _ _ _)
  obtain ⟨v0, vp, vn, vc, vz, vp2, vn2, vc2, vz2, rfl, _, _, _⟩ := open_Rat hrr (rmRest_code _ _ _ _)
  have Y16 := Z.trans y16
  obtain ⟨W1, W2, a1, _, a2, a3, a4, a5, a6, a7⟩ := two_end (t1 := T_impl_Money) (t2 := T_impl_Rat) (b2.ext Y16) (b3.ext Y16) (X7.trans Y16) ho16 hor (by kernel_rfl) rfl (by kernel_rfl) rfl (by omega) (by omega) (by omega) (by omega) (by omega) (by omega)
  exact ⟨_, _, _, _, _, _, _, _, _, _, _, _, _, rfl, W1, a1, W2, a2, _, _, _, _, _, a3, _, _, _, _, _, _, _, a4, _, f16, _, fr, rfl, a5, nd16, a6, ndr, dis, a7⟩
end Go.Proofs.YtfehpaekbbmkcaaGreatDoor

namespace Go.Proofs.YtfehpaekbbmkcaaGreatDoor
open Go Go.Proofs.YtfehpaekbbmkcaaGreatDoor.Sx
set_option linter.unusedVariables false
set_option linter.unusedSimpArgs false
theorem sgn_neg2 {z : Int} : sgn z < 0 ↔ z < 0 := by unfold sgn; split <;> (try split) <;> omega
theorem sgn_zero2 {z : Int} : sgn z = 0 ↔ z = 0 := by unfold sgn; split <;> (try split) <;> omega
theorem sgn_mul2 {z p : Int} (hp : 0 < p) : sgn (z * p) = sgn z := by
  unfold sgn
  by_cases h1 : z < 0
  · rw [if_pos h1, if_pos (Int.mul_neg_of_neg_of_pos h1 hp)]
  · rw [if_neg h1, if_neg (by have := Int.mul_nonneg (show 0 ≤ z by omega) (show 0 ≤ p by omega); omega)]
    by_cases h2 : z = 0
    · rw [if_pos h2, if_pos (by rw [h2, Int.zero_mul])]
    · rw [if_neg h2, if_neg (by have := Int.mul_pos (show 0 < z by omega) hp; omega)]
def keyT (m t : Nat) : Nat := m * 10 ^ (30 - t)
theorem keyT_low (m s : Nat) (hs : s ≤ 30) : keyT (lowM m s) (lowS m s) = keyT m s := by
  obtain ⟨h1, h2, _⟩ := lowS_spec m s
  unfold keyT lowM
  have e : 10 ^ (30 - lowS m s) = 10 ^ (s - lowS m s) * 10 ^ (30 - s) := by rw [← Nat.pow_add]; congr 1; omega
  rw [e, ← Nat.mul_assoc, Nat.div_mul_cancel (Nat.dvd_of_mod_eq_zero h2)]
theorem dcmp_key {m s m2 s2 : Nat} (h1 : (digs m).length ≤ 6) (h2 : (digs m2).length ≤ 6) (hs : s ≤ 30) (hs2 : s2 ≤ 30) : dcmp (dnn m s) (dnn m2 s2) = sgn ((keyT m s : Int) - (keyT m2 s2 : Int)) := by
  have o1 := dnn_ok (m := m) (s := s) h1 ⟨by omega, by omega⟩
  have o2 := dnn_ok (m := m2) (s := s2) h2 ⟨by omega, by omega⟩
  unfold dnn at o1 o2 ⊢
  simp only [dcmp, o1, o2, Bool.and_self, if_true]
  rw [← enc_nat m, ← enc_nat m2, ival_enc, ival_enc]
  obtain ⟨M, hM⟩ : ∃ M : Nat, max (s : Int) (s2 : Int) = (M : Int) ∧ s ≤ M ∧ s2 ≤ M ∧ M ≤ 30 := ⟨max s s2, by omega, by omega, by omega, by omega⟩
  rw [hM.1, show ((M : Int) - (s : Int)).toNat = M - s by omega, show ((M : Int) - (s2 : Int)).toNat = M - s2 by omega]
  have hp : (0 : Int) < ((10 ^ (30 - M) : Nat) : Int) := by exact_mod_cast Nat.pow_pos (by decide)
  rw [← sgn_mul2 (z := (m : Int) * 10 ^ (M - s) - (m2 : Int) * 10 ^ (M - s2)) hp, Int.sub_mul]
  congr 2
  · unfold keyT
    rw [show 30 - s = (M - s) + (30 - M) by omega, Nat.pow_add]
    push_cast
    rw [Int.mul_assoc]
  · unfold keyT
    rw [show 30 - s2 = (M - s2) + (30 - M) by omega, Nat.pow_add]
    push_cast
    rw [Int.mul_assoc]
abbrev TE := Nat × Nat × Int
def TE.key (e : TE) : Nat := keyT e.1 e.2.1
def posT : List TE → Nat → Nat
  | [], _ => 0
  | e :: s, κ => if TE.key e < κ then posT s κ + 1 else 0
def OrdT (s : List TE) : Prop := s.Pairwise fun a b => TE.key a < TE.key b
theorem posT_le : ∀ (s : List TE) (κ : Nat), posT s κ ≤ s.length
  | [], _ => Nat.le_refl _
  | e :: s, κ => by
    unfold posT
    have := posT_le s κ
    split <;> simp <;> omega
theorem posT_lo : ∀ (s : List TE) (κ j : Nat) (e : TE), s[j]? = some e → j < posT s κ → TE.key e < κ
  | [], _, j, e, h, _ => by simp at h
  | x :: s, κ, 0, e, h, hj => by
    simp only [List.getElem?_cons_zero, Option.some.injEq] at h
    subst h
    unfold posT at hj
    split at hj
    · assumption
    · omega
  | x :: s, κ, j + 1, e, h, hj => by
    unfold posT at hj
    split at hj
    · exact posT_lo s κ j e (by simpa using h) (by omega)
    · omega
theorem posT_at : ∀ (s : List TE) (κ : Nat) (e : TE), s[posT s κ]? = some e → κ ≤ TE.key e
  | [], _, e, h => by simp at h
  | x :: s, κ, e, h => by
    unfold posT at h
    split at h
    · exact posT_at s κ e (by simpa using h)
    · simp only [List.getElem?_cons_zero, Option.some.injEq] at h
      subst h; omega
theorem posT_hi {s : List TE} (ho : OrdT s) {κ j : Nat} {e : TE} (h : s[j]? = some e) (hj : posT s κ ≤ j) : κ ≤ TE.key e := by
  obtain ⟨hjl, hje⟩ := List.getElem?_eq_some_iff.1 h
  have hp : posT s κ < s.length := by omega
  have h0 := posT_at s κ _ (List.getElem?_eq_getElem hp)
  rcases Nat.lt_or_ge (posT s κ) j with hlt | hge
  · have := List.pairwise_iff_getElem.1 ho _ _ hp hjl hlt
    rw [hje] at this
    omega
  · have : posT s κ = j := by omega
    subst this
    rw [← hje]; exact h0
theorem posT_unique {s : List TE} {κ k : Nat} (hk : k ≤ s.length) (h1 : ∀ j e, s[j]? = some e → j < k → TE.key e < κ) (h2 : ∀ e, s[k]? = some e → κ ≤ TE.key e) : k = posT s κ := by
  induction s generalizing k with
  | nil => simp at hk; subst hk; rfl
  | cons x s ih =>
    cases k with
    | zero =>
      have := h2 x rfl
      unfold posT
      rw [if_neg (by omega)]
    | succ k =>
      have h0 := h1 0 x rfl (by omega)
      have := ih (k := k) (by simpa using hk) (fun j e hj hlt => h1 (j + 1) e (by simpa using hj) (by omega)) (fun e he => h2 e (by simpa using he))
      unfold posT
      rw [if_pos h0, ← this]
def hasT (s : List TE) (κ : Nat) : Bool := match s[posT s κ]? with
  | some e => decide (TE.key e = κ)
  | none => false
def taxAdd (s : List TE) (m t : Nat) (u : Int) : List TE :=
 if hasT s (keyT m t) then s.set (posT s (keyT m t)) ((s.getD (posT s (keyT m t)) (0, 0, 0)).1, (s.getD (posT s (keyT m t)) (0, 0, 0)).2.1, (s.getD (posT s (keyT m t)) (0, 0, 0)).2.2 + u)
 else s.take (posT s (keyT m t)) ++ (lowM m t, lowS m t, u) :: s.drop (posT s (keyT m t))
theorem taxAdd_len (s : List TE) (m t : Nat) (u : Int) : (taxAdd s m t u).length ≤ s.length + 1 := by
  unfold taxAdd
  split
  · simp
  · simp; omega
theorem taxAdd_ord {s : List TE} (h : OrdT s) {m t : Nat} (ht : t ≤ 30) (u : Int) : OrdT (taxAdd s m t u) := by
  unfold taxAdd
  split
  · rename_i hh
    unfold hasT at hh
    cases hx : s[posT s (keyT m t)]? with
    | none => rw [hx] at hh; cases hh
    | some e =>
      obtain ⟨hp, hpe⟩ := List.getElem?_eq_some_iff.1 hx
      rw [List.getD_eq_getElem?_getD, hx, Option.getD_some]
      have gen : ∀ (k : List Nat), s.map TE.key = k → (s.set (posT s (keyT m t)) (e.1, e.2.1, e.2.2 + u)).map TE.key = k := fun k hk => by
        rw [List.map_set]
        have : TE.key (e.1, e.2.1, e.2.2 + u) = TE.key e := rfl
        rw [this, ← hpe, ← hk]
        apply List.ext_getElem?
        intro i
        rw [List.getElem?_set]
        split
        · rename_i hi
          subst hi
          simp [hp]
        · rfl
      have hk := gen _ rfl
      unfold OrdT at h ⊢
      rw [← List.pairwise_map (f := TE.key) (R := fun a b => a < b)] at h ⊢
      rw [hk]; exact h
  · rename_i hh
    unfold OrdT
    rw [List.pairwise_append]
    have hd : ∀ x ∈ s.drop (posT s (keyT m t)), keyT m t < TE.key x := fun x hx => by
      obtain ⟨j, hj, rfl⟩ := List.getElem_of_mem hx
      rw [List.getElem_drop]
      have hjl : posT s (keyT m t) + j < s.length := by rw [List.length_drop] at hj; omega
      have h1 := posT_hi h (κ := keyT m t) (List.getElem?_eq_getElem hjl) (by omega)
      have h2 : TE.key (s[posT s (keyT m t)]'(by omega)) ≠ keyT m t := fun e => by
        apply hh
        unfold hasT
        rw [List.getElem?_eq_getElem (by omega)]
        exact decide_eq_true e
      have h3 := posT_at s (keyT m t) _ (List.getElem?_eq_getElem (show posT s (keyT m t) < s.length by omega))
      rcases Nat.eq_zero_or_pos j with h0 | h0
      · subst h0
        simp only [Nat.add_zero] at h1 ⊢
        omega
      · have := List.pairwise_iff_getElem.1 h _ _ (show posT s (keyT m t) < s.length by omega) hjl (by omega)
        omega
    have hnew : TE.key (lowM m t, lowS m t, u) = keyT m t := keyT_low m t ht
    refine ⟨h.sublist (List.take_sublist _ _), List.pairwise_cons.2 ⟨fun x hx => by rw [hnew]; exact hd x hx, h.sublist (List.drop_sublist _ _)⟩, fun a ha b hb => ?_⟩
    obtain ⟨j, hj, rfl⟩ := List.getElem_of_mem ha
    have hj' : j < posT s (keyT m t) := by rw [List.length_take] at hj; omega
    have h1 := posT_lo s (keyT m t) j _ (List.getElem?_eq_getElem (show j < s.length by rw [List.length_take] at hj; omega)) hj'
    rw [List.getElem_take]
    rcases List.mem_cons.1 hb with e | hb
    · rw [e, hnew]; exact h1
    · have := hd b hb; omega
def TE.ok (M : Nat) (e : TE) : Prop := e.1 < 1000000000 ∧ e.2.1 ≤ 30 ∧ e.2.2.natAbs ≤ M
theorem taxAdd_ok {s : List TE} {M N : Nat} (h : ∀ e ∈ s, TE.ok M e) {m t : Nat} {u : Int} (hm : m < 1000000000) (ht : t ≤ 30) (hu : u.natAbs ≤ N) : ∀ e ∈ taxAdd s m t u, TE.ok (M + N) e := by
  unfold taxAdd
  intro e he
  split at he
  · rcases List.mem_or_eq_of_mem_set he with he | he
    · obtain ⟨h1, h2, h3⟩ := h e he; exact ⟨h1, h2, by omega⟩
    · rename_i hh _
      unfold hasT at hh
      cases hx : s[posT s (keyT m t)]? with
      | none => rw [hx] at hh; cases hh
      | some e2 =>
        rw [List.getD_eq_getElem?_getD, hx, Option.getD_some] at he
        obtain ⟨h1, h2, h3⟩ := h e2 (List.mem_of_getElem? hx)
        subst he
        exact ⟨h1, h2, by simp only; omega⟩
  · rcases List.mem_append.1 he with he | he
    · obtain ⟨h1, h2, h3⟩ := h e (List.mem_of_mem_take he); exact ⟨h1, h2, by omega⟩
    · rcases List.mem_cons.1 he with he | he
      · subst he
        have := lowM_le m t; have := (lowS_spec m t).1
        exact ⟨by simp only; omega, by simp only; omega, by simp only; omega⟩
      · obtain ⟨h1, h2, h3⟩ := h e (List.mem_of_mem_drop he); exact ⟨h1, h2, by omega⟩
def lnCur : List D0 → ByteArray
  | .str c :: _ => c
  | _ => ByteArray.empty
def lnU : List D0 → Int
  | [.str _, .bool b, .ints z, _, _, _] => ival [.bool b, .ints z]
  | _ => 0
def lnM : List D0 → Nat
  | [_, _, _, _, .ints z, _] => (val z).toNat
  | _ => 0
def lnS : List D0 → Nat
  | [_, _, _, _, _, .int s] => s.toNat
  | _ => 0
def lnOk (c0 : ByteArray) (x : List D0) : Bool := moneyOk (x.take 3) && (taxOk (x.drop 3) && decide (lnCur x = c0))
def taxS (l : List (List D0)) : List TE := l.foldl (fun s x => taxAdd s (lnM x) (lnS x) (lnU x)) []
theorem taxS_snoc {l : List (List D0)} {j : Nat} (hj : j < l.length) : taxS (l.take (j + 1)) = taxAdd (taxS (l.take j)) (lnM (l[j]'hj)) (lnS (l[j]'hj)) (lnU (l[j]'hj)) := by
  rw [List.take_succ_eq_append_getElem hj]
  unfold taxS
  rw [List.foldl_append]; rfl
def money0 : List D0 := [.str ByteArray.empty, .bool false, .ints []]
def taxRow (c : ByteArray) (e : TE) : List D0 := dnn e.1 e.2.1 ++ ((.str c :: enc e.2.2) ++ money0)
def netOf (c : ByteArray) (e : TE) : List D0 := .str c :: enc e.2.2
def taxOf (c : ByteArray) (mode : Int) (e : TE) : Bool × List D0 × List D0 := taxOnT (netOf c e) (dnn e.1 e.2.1) mode
def taxRowT (c : ByteArray) (mode : Int) (e : TE) : List D0 := dnn e.1 e.2.1 ++ (netOf c e ++ (taxOf c mode e).2.1)
def hdCur (l : List (List D0)) : ByteArray := match l with
  | [] => ByteArray.empty
  | x :: _ => lnCur x
def taxSumsOk (l : List (List D0)) (mode : Int) : Bool := !l.isEmpty && (l.all (lnOk (hdCur l)) && (taxS l).all fun e => (taxOf (hdCur l) mode e).1)
def taxSums (l : List (List D0)) (mode : Int) : List (List D0) := if taxSumsOk l mode then (taxS l).map (taxRowT (hdCur l) mode) else []
theorem taxRow_code (c : ByteArray) (e : TE) : (taxRow c e).map D0.code = [.bool, .ints, .int, .str, .bool, .ints, .str, .bool, .ints] := rfl
theorem taxOf_code (c : ByteArray) (mode : Int) (e : TE) : ((taxOf c mode e).2.1).map D0.code = [.str, .bool, .ints] := (taxOnT_facts _ _ mode).1
theorem taxRowT_code (c : ByteArray) (mode : Int) (e : TE) : (taxRowT c mode e).map D0.code = [.bool, .ints, .int, .str, .bool, .ints, .str, .bool, .ints] := by
  unfold taxRowT
  rw [List.map_append, List.map_append, taxOf_code]; rfl
theorem taxSums_code (l : List (List D0)) (mode : Int) : ∀ x ∈ taxSums l mode, x.map D0.code = [.bool, .ints, .int, .str, .bool, .ints, .str, .bool, .ints] := by
  unfold taxSums
  split
  · intro x hx
    obtain ⟨e, _, rfl⟩ := List.mem_map.1 hx
    exact taxRowT_code _ _ _
  · intro x hx; cases hx
theorem ln_parts {c0 : ByteArray} {x : List D0} (hc : x.map D0.code = [.str, .bool, .ints, .bool, .ints, .int]) (h : lnOk c0 x = true) :
    ∃ (u : Int) (m t : Nat), x = (.str c0 :: enc u) ++ dnn m t ∧ lnCur x = c0 ∧ lnU x = u ∧ lnM x = m ∧ lnS x = t ∧ u.natAbs ≤ 1000000000000000000000000000000000000 ∧ m < 1000000000 ∧ t ≤ 30 ∧ (digs m).length ≤ 1 ∧ moneyOk (.str c0 :: enc u) = true ∧ taxOk (dnn m t) = true := by
  obtain ⟨c, es, rfl, h1⟩ := code_str hc
  obtain ⟨b, es, rfl, h2⟩ := code_bool h1
  obtain ⟨z, es, rfl, h3⟩ := code_ints h2
  obtain ⟨b2, es, rfl, h4⟩ := code_bool h3
  obtain ⟨z2, es, rfl, h5⟩ := code_ints h4
  obtain ⟨s, es, rfl, h6⟩ := code_int h5
  have := code_nil h6; subst this
  unfold lnOk at h
  simp only [List.take_succ_cons, List.take_zero, List.drop_succ_cons, List.drop_zero, Bool.and_eq_true, decide_eq_true_eq] at h
  obtain ⟨k1, k2, k3⟩ := h
  have hcc : c = c0 := k3
  subst hcc
  obtain ⟨m, t, e1, e2, e3, e4, e5, e6, e7⟩ := taxOk_nn k2
  subst e1; subst e2; subst e3
  have hu := money_bound k1
  have k1' := k1
  simp only [moneyOk, Bool.and_eq_true, decide_eq_true_eq] at k1
  have he := (intOk_enc k1.1.2).1
  refine ⟨ival [.bool b, .ints z], m, t, ?_, rfl, rfl, e5, e6, hu, e7, e4, one_len e7, ?_, k2⟩
  · rw [← he]; rfl
  · rw [← he]; exact k1'
end Go.Proofs.YtfehpaekbbmkcaaGreatDoor

namespace Go.Proofs.YtfehpaekbbmkcaaGreatDoor
open Go Go.Proofs.YtfehpaekbbmkcaaGreatDoor.Sx
set_option linter.unusedVariables false
set_option linter.unusedSimpArgs false
theorem nodup_swap {α : Type} {fs : List (List α)} {fi f' : List α} {i : Nat} (hi : fs[i]? = some fi) (h : fs.flatten.Nodup) (hf : f'.Nodup) (hd : ∀ y ∈ f', y ∈ fi ∨ y ∉ fs.flatten) : (fs.set i f').flatten.Nodup := by
  rw [set_split hi]
  have e := cons_at hi
  have h2 : (fs.take i ++ fi :: fs.drop (i + 1)).flatten.Nodup := by rw [← e]; exact h
  rw [List.flatten_append, List.flatten_cons] at h2 ⊢
  obtain ⟨a1, a2, a3⟩ := List.nodup_append.1 h2
  obtain ⟨b1, b2, b3⟩ := List.nodup_append.1 a2
  have hin : ∀ y, y ∈ (fs.take i).flatten ∨ y ∈ (fs.drop (i + 1)).flatten → y ∈ fs.flatten := fun y hy => by
    rw [e, List.flatten_append, List.flatten_cons]
    rcases hy with hy | hy
    · exact List.mem_append_left _ hy
    · exact List.mem_append_right _ (List.mem_append_right _ hy)
  have k1 : ∀ y ∈ f', y ∉ (fs.take i).flatten := fun y hy hm => by
    rcases hd y hy with h | h
    · exact a3 y hm y (List.mem_append_left _ h) rfl
    · exact h (hin y (.inl hm))
  have k2 : ∀ y ∈ f', y ∉ (fs.drop (i + 1)).flatten := fun y hy hm => by
    rcases hd y hy with h | h
    · exact b3 y h y hm rfl
    · exact h (hin y (.inr hm))
  refine List.nodup_append.2 ⟨a1, List.nodup_append.2 ⟨hf, b2, fun a ha b hb e => k2 a ha (by rw [e]; exact hb)⟩, fun a ha b hb e => ?_⟩
  rcases List.mem_append.1 hb with hb | hb
  · exact k1 b hb (by rw [← e]; exact ha)
  · exact a3 a ha b (List.mem_append_right _ hb) e
theorem Sx.OwnRows.swap {w : World} {B : Nat} {e : TypeId} {k : Nat} {p : Option Addr} {n c : Nat} {l : List (List D0)} {f : List Nat} (h : OwnRows w B e k p n c l f) {i : Nat} {x : List D0} (hx : l[i]? = some x) :
    ∃ b xs cs zs fi, p = some ⟨b, 0, none⟩ ∧ B ≤ b ∧ b ∈ f ∧ xs.length = i * k ∧ cs.length = k ∧ Blk w b e (xs ++ cs ++ zs) ∧ Owns w B cs x fi ∧ fi.Nodup ∧ b ∉ fi ∧ (∀ y ∈ fi, y ∈ f) ∧
      ∀ w' cs' x' f', Chg [b] w w' → cs'.length = k → Blk w' b e (xs ++ cs' ++ zs) → Owns w' B cs' x' f' → f'.Nodup → (∀ y ∈ f', y ∈ fi ∨ y ∉ f) → ∃ f'', OwnRows w' B e k p n c (l.set i x') f'' ∧ ∀ q ∈ f'', q ∈ f ∨ q ∈ f' := by
  obtain ⟨hl, css, fs, ha, ho, rfl, hnd⟩ := h
  have hi : i < l.length := (List.getElem?_eq_some_iff.1 hx).1
  obtain ⟨cs, fi, hcs, hfi, hk, how⟩ := ha.focus i x hx
  obtain ⟨hlen, hcl, hfl⟩ := ha.lens
  obtain ⟨b, ys, rfl, hb, hblk, hyl, hnc, hc, hy⟩ := ho.blk (by omega)
  have hsp := congrArg List.flatten (cons_at hcs)
  rw [List.flatten_append, List.flatten_cons] at hsp
  have hA : (css.take i).flatten.length = i * k := by
    rw [flat_len fun c hc => hlen c (List.mem_of_mem_take hc), List.length_take, Nat.min_eq_left (by omega)]
  have hys : ys = (css.take i).flatten ++ cs ++ ((css.drop (i + 1)).flatten ++ ys.drop (n * k)) := by
    conv => lhs; rw [← List.take_append_drop (n * k) ys, hy, hsp]
    simp
  have hnd1 := List.nodup_append.1 hnd
  have hpin : ∀ q ∈ fs.flatten, q ∉ [b] := fun q hq hm => hnd1.2.2 q (by simpa using hm) q hq rfl
  have hfin : ∀ y ∈ fi, y ∈ fs.flatten := fun y hy => List.mem_flatten.2 ⟨fi, List.mem_of_getElem? hfi, hy⟩
  have hfnd : fi.Nodup := by
    have := hnd1.2.1
    rw [cons_at hfi, List.flatten_append, List.flatten_cons] at this
    exact (List.nodup_append.1 (List.nodup_append.1 this).2.1).1
  rw [hys] at hblk
  refine ⟨b, _, cs, _, fi, rfl, hb, by simp, hA, hk, hblk, how, hfnd, fun hm => hpin b (hfin b hm) (by simp), fun y hy => List.mem_append_right _ (hfin y hy), ?_⟩
  intro w' cs' x' f' hch hk' hblk' how' hnf hdis
  have ha' := AllO.put hk' how' i (ha.chg hch hpin)
  have hset : (css.set i cs').flatten = (css.take i).flatten ++ cs' ++ (css.drop (i + 1)).flatten := by
    rw [List.set_eq_take_append_cons_drop, if_pos (by omega), List.flatten_append, List.flatten_cons, List.append_assoc]
  have hdis2 : ∀ y ∈ f', y ∈ fi ∨ y ∉ fs.flatten := fun y hy => by
    rcases hdis y hy with h | h
    · exact .inl h
    · exact .inr fun hm => h (List.mem_append_right _ hm)
  refine ⟨[b] ++ (fs.set i f').flatten, ⟨by simpa using hl, _, _, ha', ?_, by simp, ?_⟩, ?_⟩
  · rw [hset]
    have hlen2 : ((css.take i).flatten ++ cs' ++ (css.drop (i + 1)).flatten).length = n * k := by
      rw [← hset, flat_len (k := k) (fun c hc => by
        rcases List.mem_or_eq_of_mem_set hc with h1 | h1
        · exact hlen c h1
        · rw [h1]; exact hk')]
      rw [List.length_set, show css.length = n by omega]
    have hlen3 : ((css.take i).flatten ++ cs' ++ ((css.drop (i + 1)).flatten ++ ys.drop (n * k))).length = c * k := by
      have := congrArg List.length hys
      simp only [List.length_append] at this ⊢
      omega
    have := Own.of_blk' (n := n) hblk' hb hlen3 hnc hc
    have e2 : ((css.take i).flatten ++ cs' ++ ((css.drop (i + 1)).flatten ++ ys.drop (n * k))).take (n * k) = (css.take i).flatten ++ cs' ++ (css.drop (i + 1)).flatten := by
      rw [← List.append_assoc, List.take_left' hlen2]
    rwa [e2] at this
  · refine List.nodup_append.2 ⟨by simp, nodup_swap hfi hnd1.2.1 hnf hdis2, fun a ha b' hb' e3 => ?_⟩
    simp only [List.mem_singleton] at ha
    subst ha; subst e3
    rcases mem_put hb' with h1 | h1
    · rcases hdis a h1 with h2 | h2
      · exact hpin a (hfin a h2) (by simp)
      · exact h2 (by simp)
    · exact hpin a h1 (by simp)
  · intro q hq
    rcases List.mem_append.1 hq with h1 | h1
    · exact .inl (List.mem_append_left _ (by simpa using h1))
    · rcases mem_put h1 with h2 | h2
      · exact .inr h2
      · exact .inl (List.mem_append_right _ h2)
end Go.Proofs.YtfehpaekbbmkcaaGreatDoor

namespace Go.Proofs.YtfehpaekbbmkcaaGreatDoor.Sx
open Go Go.RowKit
set_option linter.unusedVariables false
set_option linter.unusedSimpArgs false
theorem Fl.trans {os : List Obj} {ss : List (Option Nat)} {w : World} {s1 : List (Option Nat)} {w1 : World} {s2 : List (Option Nat)} {w2 : World} (h : Fl os ss w s1 w1) (g : Fl os s1 w1 s2 w2) : Fl os ss w s2 w2 := by
  induction h with
  | refl => exact g
  | step h1 h2 _ ih => exact .step h1 h2 (ih g)
theorem Fl.old {os : List Obj} {ss : List (Option Nat)} {w : World} {s1 : List (Option Nat)} {w1 : World} (h : Fl os ss w s1 w1) {k r : Nat} (hk : s1[k]? = some (some r)) : ss[k]? = some (some r) ∨ w.heap.size ≤ r := by
  induction h with
  | refl => exact .inl hk
  | step h1 h2 h3 ih =>
    rename_i ss w k' o s' w'
    have hs : (w.alloc o).heap.size = w.heap.size + 1 := by simp
    rcases ih hk with h | h
    · by_cases e : k' = k
      · subst e
        have hl : k' < ss.length := by
          rcases Nat.lt_or_ge k' ss.length with h | h
          · exact h
          · rw [List.getElem?_eq_none h] at h1; cases h1
        rw [List.getElem?_set_self hl] at h
        simp at h
        exact .inr (by omega)
      · rw [List.getElem?_set_ne e] at h
        exact .inl h
    · exact .inr (by omega)
def FlS (os : List Obj) (w0 : World) (ss : List (Option Nat)) (w : World) : Prop :=
 Ext w0 w ∧ (∀ (k r : Nat), ss[k]? = some (some r) → w0.heap.size ≤ r ∧ r < w.heap.size ∧ w.heap[r]? = os[k]?) ∧ (∀ (k l r : Nat), ss[k]? = some (some r) → ss[l]? = some (some r) → k = l)
theorem FlS.ext {os : List Obj} {w0 w w' : World} {ss : List (Option Nat)} (h : FlS os w0 ss w) (y : Ext w w') : FlS os w0 ss w' :=
  ⟨h.1.trans y, fun k r hk => by
    obtain ⟨a, b, c⟩ := h.2.1 k r hk
    exact ⟨a, Nat.lt_of_lt_of_le b y.le, (y.block r b).trans c⟩, h.2.2⟩
theorem FlS.step {os : List Obj} {w0 w w' : World} {ss ss' : List (Option Nat)} (h : FlS os w0 ss w) (f : Fl os ss w ss' w') : FlS os w0 ss' w' := by
  induction f with
  | refl => exact h
  | step h1 h2 h3 ih =>
    rename_i ss w k' o s' w'
    refine ih ?_
    have y : Ext w (w.alloc o) := (Below.refl _ _).alloc (Nat.le_refl _) _
    have hs : (w.alloc o).heap.size = w.heap.size + 1 := by simp
    have hg : (w.alloc o).heap[w.heap.size]? = some o := heap_alloc_new w _
    have hl : k' < ss.length := by
      rcases Nat.lt_or_ge k' ss.length with h | h
      · exact h
      · rw [List.getElem?_eq_none h] at h1; cases h1
    have hx := h.ext y
    have hle := h.1.le
    refine ⟨hx.1, fun k r hk => ?_, fun k l r hk hl' => ?_⟩
    · by_cases e : k' = k
      · subst e
        rw [List.getElem?_set_self hl] at hk
        simp at hk
        subst hk
        exact ⟨hle, by omega, hg.trans h2.symm⟩
      · rw [List.getElem?_set_ne e] at hk
        exact hx.2.1 k r hk
    · by_cases e : k' = k
      · by_cases e2 : k' = l
        · omega
        · subst e
          rw [List.getElem?_set_self hl] at hk
          simp at hk
          subst hk
          rw [List.getElem?_set_ne e2] at hl'
          have := (h.2.1 l _ hl').2.1
          omega
      · rw [List.getElem?_set_ne e] at hk
        by_cases e2 : k' = l
        · subst e2
          rw [List.getElem?_set_self hl] at hl'
          simp at hl'
          subst hl'
          have := (h.2.1 k _ hk).2.1
          omega
        · rw [List.getElem?_set_ne e2] at hl'
          exact h.2.2 k l r hk hl'
theorem FlS.first {os : List Obj} {w0 w : World} {ss0 ss : List (Option Nat)} (f : Fl os ss0 w0 ss w) (h : ss0.all Option.isNone = true) : FlS os w0 ss w := by
  refine FlS.step ⟨Ext.refl _, fun k r hk => ?_, fun k l r hk _ => ?_⟩ f <;>
  · have hm := List.mem_of_getElem? hk
    have := List.all_eq_true.1 h _ hm
    simp at this
theorem FlS.blk {os : List Obj} {w0 w : World} {ss : List (Option Nat)} {k r : Nat} {cs : List Value} {e : TypeId} (h : FlS os w0 ss w) (hk : ss[k]? = some (some r)) (ho : os[k]? = some (.cells ⟨cs⟩ e (0, 0))) : w0.heap.size ≤ r ∧ r < w.heap.size ∧ Blk w r e cs := by
  obtain ⟨a, b, c⟩ := h.2.1 k r hk
  exact ⟨a, b, c.trans ho⟩
theorem FlS.ne {os : List Obj} {w0 w : World} {ss : List (Option Nat)} {k l r s : Nat} (h : FlS os w0 ss w) (hk : ss[k]? = some (some r)) (hl : ss[l]? = some (some s)) (e : k ≠ l) : r ≠ s := fun hh => e (h.2.2 k l r hk (hh ▸ hl))
theorem FlS.apart {os : List Obj} {w0 wc we w' : World} {ss ss' : List (Option Nat)} {k r : Nat} (h : FlS os w0 ss wc) (f : Fl os ss we ss' w') (hk : ss'[k]? = some (some r)) : r < wc.heap.size ∨ we.heap.size ≤ r := by
  rcases f.old hk with a | a
  · exact .inl (h.2.1 k r a).2.1
  · exact .inr a
end Go.Proofs.YtfehpaekbbmkcaaGreatDoor.Sx

namespace Go.Proofs.YtfehpaekbbmkcaaGreatDoor
open Go Go.Proofs.YtfehpaekbbmkcaaGreatDoor.Sx
set_option linter.unusedVariables false
set_option linter.unusedSimpArgs false
abbrev C9 : List C0 := [.bool, .ints, .int, .str, .bool, .ints, .str, .bool, .ints]
abbrev C6 : List C0 := [.str, .bool, .ints, .bool, .ints, .int]
theorem taxS_facts {l : List (List D0)} {c0 : ByteArray} (hc : ∀ x ∈ l, x.map D0.code = C6) : ∀ {j : Nat}, j ≤ l.length → (∀ x ∈ l.take j, lnOk c0 x = true) →
    OrdT (taxS (l.take j)) ∧ (∀ e ∈ taxS (l.take j), TE.ok (j * 1000000000000000000000000000000000000) e) ∧ (taxS (l.take j)).length ≤ j := by
  intro j
  induction j with
  | zero =>
    intro _ _
    rw [List.take_zero]
    exact ⟨List.Pairwise.nil, fun e he => (by cases he), Nat.le_refl _⟩
  | succ j ih =>
    intro hj hall
    have hjl : j < l.length := hj
    have htk := List.take_succ_eq_append_getElem hjl
    obtain ⟨h1, h2, h3⟩ := ih (by omega) (fun x hx => hall x (by rw [htk]; exact List.mem_append_left _ hx))
    obtain ⟨u, m, t, _, _, eu, em, et, hu, hm, ht, _, _, _⟩ := ln_parts (hc _ (List.getElem_mem hjl)) (hall (l[j]'hjl) (by rw [htk]; exact List.mem_append_right _ (.head _)))
    rw [taxS_snoc hjl, em, et, eu]
    refine ⟨taxAdd_ord h1 ht u, fun e he => ?_, ?_⟩
    · have := taxAdd_ok (N := 1000000000000000000000000000000000000) h2 hm ht hu e he
      rwa [Nat.succ_mul]
    · have := taxAdd_len (taxS (l.take j)) m t u; omega
theorem tax_fit {j : Nat} {u : Int} (hj : j ≤ 1048576) (h : u.natAbs ≤ j * 1000000000000000000000000000000000000) : u.natAbs < 100000000000000000000000000000000000000000000000000000 := by
  have : j * 1000000000000000000000000000000000000 ≤ 1048576 * 1000000000000000000000000000000000000 := Nat.mul_le_mul_right _ hj
  omega
theorem one_len6 {m : Nat} (h : m < 1000000000) : (digs m).length ≤ 6 := Nat.le_trans (one_len h) (by decide)
theorem taxRow_take (c : ByteArray) (e : TE) : (taxRow c e).take 3 = dnn e.1 e.2.1 := rfl
theorem taxRow_cmp {c : ByteArray} {e : TE} {m t M : Nat} (he : TE.ok M e) (hm : m < 1000000000) (ht : t ≤ 30) : dcmp ((taxRow c e).take 3) (dnn m t) = sgn ((TE.key e : Int) - (keyT m t : Int)) := by
  rw [taxRow_take]
  exact dcmp_key (one_len6 he.1) (one_len6 hm) he.2.1 ht
theorem rows_at {c : ByteArray} {s : List TE} {j : Nat} {x : List D0} (h : (s.map (taxRow c))[j]? = some x) : ∃ e, s[j]? = some e ∧ x = taxRow c e := by
  rw [List.getElem?_map] at h
  cases hy : s[j]? with
  | none => rw [hy] at h; cases h
  | some y => rw [hy] at h; exact ⟨y, rfl, (Option.some.inj h).symm⟩
theorem tax_found {c : ByteArray} {s : List TE} {m t M : Nat} (hs : ∀ e ∈ s, TE.ok M e) (hm : m < 1000000000) (ht : t ≤ 30) (k : Nat) :
    (match (s.map (taxRow c))[k]? with | some x => decide (dcmp (x.take 3) (dnn m t) = 0) | none => false) = (match s[k]? with | some e => decide (TE.key e = keyT m t) | none => false) := by
  rw [List.getElem?_map]
  cases hy : s[k]? with
  | none => rfl
  | some y =>
    show decide (dcmp ((taxRow c y).take 3) (dnn m t) = 0) = decide (TE.key y = keyT m t)
    rw [taxRow_cmp (hs y (List.mem_of_getElem? hy)) hm ht, decide_eq_decide, sgn_zero2]
    omega
theorem taxRow_new (c : ByteArray) (m t : Nat) : taxRow c (m, t, 0) = dnn m t ++ [.str c, .bool false, .ints [], .str ByteArray.empty, .bool false, .ints []] := by
  unfold taxRow money0
  rw [enc0]; rfl
theorem taxAdd_two {s : List TE} {m t : Nat} {u : Int} {c : ByteArray} : ∃ (e : TE), (if hasT s (keyT m t) then s else s.take (posT s (keyT m t)) ++ (lowM m t, lowS m t, 0) :: s.drop (posT s (keyT m t)))[posT s (keyT m t)]? = some e ∧
    taxAdd s m t u = (if hasT s (keyT m t) then s else s.take (posT s (keyT m t)) ++ (lowM m t, lowS m t, 0) :: s.drop (posT s (keyT m t))).set (posT s (keyT m t)) (e.1, e.2.1, e.2.2 + u) ∧ (e ∈ s ∨ e = (lowM m t, lowS m t, 0)) := by
  have hp := posT_le s (keyT m t)
  cases hh : hasT s (keyT m t) with
  | true =>
    have h2 := hh
    unfold hasT at h2
    cases hx : s[posT s (keyT m t)]? with
    | none => rw [hx] at h2; cases h2
    | some e =>
      refine ⟨e, by simpa using hx, ?_, .inl (List.mem_of_getElem? hx)⟩
      unfold taxAdd
      rw [hh, if_pos rfl, if_pos rfl, List.getD_eq_getElem?_getD, hx, Option.getD_some]
  | false =>
    have hl : (s.take (posT s (keyT m t))).length = posT s (keyT m t) := by rw [List.length_take]; omega
    refine ⟨(lowM m t, lowS m t, 0), ?_, ?_, .inr rfl⟩
    · simp only [Bool.false_eq_true, if_false]
      rw [List.getElem?_append_right (by omega), hl, Nat.sub_self]; rfl
    · unfold taxAdd
      simp only [hh, Bool.false_eq_true, if_false]
      rw [List.set_append_right _ _ (by omega), hl, Nat.sub_self, List.set_cons_zero, Int.zero_add]
theorem taxOnT_money {d0 d1 : List D0} {m : Int} (h : (taxOnT d0 d1 m).1 = true) : moneyOk (taxOnT d0 d1 m).2.1 = true := by
  unfold taxOnT at h ⊢
  split at h
  · split at h
    · rename_i hh
      simp only [hh, if_true] at h ⊢
      unfold rmMoney
      rw [h, if_pos rfl]
      unfold rmOk at h
      rw [Bool.and_eq_true] at h
      exact h.2
    · cases h
  · cases h
theorem money_cnt9 {x : List D0} (hc : x.map D0.code = [.str, .bool, .ints]) (h : moneyOk x = true) : cnts x ≤ 20 := by
  obtain ⟨a, es, rfl, h1⟩ := code_str hc
  obtain ⟨b, es, rfl, h2⟩ := code_bool h1
  obtain ⟨z, es, rfl, h3⟩ := code_ints h2
  have := code_nil h3; subst this
  simp only [moneyOk, Bool.and_eq_true, decide_eq_true_eq] at h
  have he : cnts [.str a, .bool b, .ints z] = 1 + (1 + ((z.length : Nat) + 0)) := rfl
  rw [he]; omega
theorem cnts_app : ∀ (a b : List D0), cnts (a ++ b) = cnts a + cnts b
  | [], b => by simp [cnts]
  | x :: a, b => by simp only [List.cons_append, cnts, cnts_app a b]; omega
theorem cntL_maxB {M : Int} (hM : 0 ≤ M) : ∀ (l : List (List D0)), (∀ x ∈ l, cnts x ≤ M) → cntL l ≤ (l.length : Nat) * M
  | [], _ => by simp [cntL]
  | x :: l, h => by
    have h1 := h x (.head _); have h2 := cntL_maxB hM l fun y hy => h y (.tail _ hy)
    simp only [cntL, List.length_cons, Int.natCast_add, Int.natCast_one, Int.add_mul, Int.one_mul]
    omega
theorem taxSums_cnt {l : List (List D0)} (hc : ∀ x ∈ l, x.map D0.code = C6) (mode : Int) (hl : l.length ≤ 1048576) : cntL (taxSums l mode) ≤ 1000000000 := by
  unfold taxSums
  split
  · rename_i h
    unfold taxSumsOk at h
    simp only [Bool.and_eq_true, List.all_eq_true] at h
    obtain ⟨_, hall, htax⟩ := h
    obtain ⟨_, h2, h3⟩ := taxS_facts (c0 := hdCur l) hc (Nat.le_refl l.length) (fun x hx => hall x (by rwa [List.take_length] at hx))
    rw [List.take_length] at h2 h3
    have := cntL_maxB (M := 100) (by decide) ((taxS l).map (taxRowT (hdCur l) mode)) fun x hx => by
      obtain ⟨e, he, rfl⟩ := List.mem_map.1 hx
      have hok := htax e he
      obtain ⟨k1, k2, k3⟩ := h2 e he
      unfold taxRowT
      have k4 := money_cnt9 (taxOf_code (hdCur l) mode e) (taxOnT_money hok)
      have k5 := one_len k1
      have k6 := digs_len 6 (n := e.2.2.natAbs) (by have := tax_fit hl k3; omega)
      rw [cnts_app, cnts_app]
      have e1 : cnts (dnn e.1 e.2.1) = 1 + (((digs e.1).length : Nat) + (1 + 0)) := rfl
      have e2 : cnts (netOf (hdCur l) e) = 1 + (1 + (((digs e.2.2.natAbs).length : Nat) + 0)) := rfl
      rw [e1, e2]
      omega
    have hlm : ((taxS l).map (taxRowT (hdCur l) mode)).length = (taxS l).length := List.length_map _
    rw [hlm] at this
    have h5 : ((taxS l).length : Int) * 100 ≤ 1048576 * 100 := by omega
    omega
  · decide
theorem impl_TaxSums_1_c {w : World} {xs ys : List Value} {dx dy : List D0} (h : Reps w xs dx) (g : Reps w ys dy) (hc : dx.map D0.code = C9) (gc : dy.map D0.code = C9) :
    Ret P n_impl_TaxSums_1 [.agg ⟨xs⟩, .agg ⟨ys⟩] w fun v w' => v = .int .i64 (dcmp (dx.take 3) (dy.take 3)) ∧ Ext w w' := by
  obtain ⟨a0, a1p, a1n, a1c, a1z, a2, a3, a4, a5p, a5n, a5c, a5z, a6, a7, a8p, a8n, a8c, a8z, rfl, rfl, ha, _⟩ := open_TaxSum h hc
  obtain ⟨b0, b1p, b1n, b1c, b1z, b2, b3, b4, b5p, b5n, b5c, b5z, b6, b7, b8p, b8n, b8c, b8z, rfl, rfl, hb, _⟩ := open_TaxSum g gc
  refine impl_TaxSums_1_ret ?_
  unfold impl_TaxSums_1
  intro r w1 hn1 r1 w2 hn2
  have X := hn1.ext.trans hn2.ext
  refine ⟨_, _, _, _, _, (hn1.blk.ext hn2.ext).loadAAt 0 [.bool a0, .slice a1p a1n a1c, .int .i64 a2] rfl (by kernel_rfl) rfl, _, _, _, _, _, hn2.blk.loadAAt 0 [.bool b0, .slice b1p b1n b1c, .int .i64 b2] rfl (by kernel_rfl) rfl, ?_⟩
  refine Ret.at (impl_DecCmp_c (dx := [.bool a0, .ints a1z, .int a2]) (dy := [.bool b0, .ints b1z, .int b2]) ⟨rfl, ⟨_, _, _, rfl, ha.ext X⟩, rfl, trivial⟩ ⟨rfl, ⟨_, _, _, rfl, hb.ext X⟩, rfl, trivial⟩ rfl rfl) ?_
  rintro v w3 ⟨hv, y3⟩
  subst hv
  exact ⟨_, rfl, rfl, X.trans y3⟩
end Go.Proofs.YtfehpaekbbmkcaaGreatDoor
