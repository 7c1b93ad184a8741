/-
  Contracts: the reference's sum of two integers.
-/
import Derived.Test.YtfbmjimhjlmhkaaDoorCIntAdd
namespace Go.Proofs.YtfbmjimhjlmhkaaDoor
open Go Go.Proofs.YtfbmjimhjlmhkaaDoor.Sx
set_option linter.unusedVariables false
set_option linter.unusedSimpArgs false

theorem digs_len : ∀ (k : Nat) {n : Nat}, n < 1000000000 ^ k → (digs n).length ≤ k
  | 0, n, h => by
    have : n = 0 := by simpa using h
    subst this; simp [digs_zero]
  | k + 1, n, h => by
    by_cases h0 : n = 0
    · subst h0; simp [digs_zero]
    · rw [digs_pos h0, List.length_cons]
      have := digs_len k (n := n / 1000000000) (Nat.div_lt_of_lt_mul (by rw [Nat.mul_comm, ← Nat.pow_succ]; exact h))
      omega
theorem icap_fit {z : Int} (h : (digs z.natAbs).length ≤ 50) : icap z = enc z := by
  unfold icap capL
  rw [if_pos h]
  simp only [mkS, enc, isEmpty_digs]
  by_cases h0 : z < 0
  · have : z.natAbs ≠ 0 := by omega
    simp [h0]; omega
  · simp [h0]

theorem spec_l04Make_c {w : World} {neg : Bool} {p : Option Addr} {n c : Nat} {z : List Int} (h : IntsR w p n c z) (hl : Limbs z) :
    Ret P n_spec_l04Make [.bool neg, .slice p n c] w fun v w' => ∃ b p n c, v = .agg ⟨[.bool b, .slice p n c]⟩ ∧ b = (neg && !(capL (digs (val z).toNat)).isEmpty) ∧ Own w' w.heap.size T_int 1 p n c ((capL (digs (val z).toNat)).map (Value.int .i64)) ∧ Ext w w' := by
  refine spec_l04Make_ret ?_
  unfold spec_l04Make
  intro r w1 hn1
  refine Ret.at (spec_l02Cap_c (h.ext hn1.ext)) ?_
  rintro v w2 ⟨p', n', c', hv, hw, hr⟩
  subst hv; subst hw
  rw [trimL_eq hl] at hr
  have hn' := hr.1
  have h50 : n' ≤ 50 := by
    have := (capL_canon (n := (val z).toNat)).2
    omega
  have e1 := hn1.r_eq
  refine ⟨_, _, _, rfl, fun e => ?_, fun e => ?_⟩
  all_goals
    intro r1 w3 hn3
    obtain ⟨p2, c2, w4, g1, g2, g3⟩ := Own.appendI (Own.fresh hn3) hn3.ext.le (hr.ext hn3.ext) (by omega)
    rw [Nat.zero_add] at g1 g2
    rw [List.nil_append] at g2
    have y4 : Ext w2 w4 := g3 w2 hn3.ext (Nat.le_refl _)
    refine ⟨_, _, _, _, g1, ?_⟩
  · obtain ⟨w5, st, hb5, ch, sz⟩ := (hn1.blk.ext y4).storeA0 (P := P) (t := T_impl_Signed) (xs := [.bool (decide ((0 : Int) < (n' : Nat))), .slice p2 n' c2]) (by kernel_rfl) rfl (by simp [Value.oneCell'])
    refine ⟨w5, st, _, _, _, _, hb5.loadA0 (by kernel_rfl), _, _, _, _, rfl, by rw [len_bool hn', e]; rfl, (g2.chg ch (fun q hq => ?_)).mono hn1.ext.le, (hn1.ext.trans y4).chg ch (by simp; omega)⟩
    have := (World.ownsRow.lt g2 q (by rw [← hq]; cases p2 <;> rfl)).1
    have := hn1.size
    simp; omega
  · obtain ⟨w5, st, hb5, ch, sz⟩ := (hn1.blk.ext y4).storeA0 (P := P) (t := T_impl_Signed) (xs := [.bool false, .slice p2 n' c2]) (by kernel_rfl) rfl (by simp [Value.oneCell'])
    refine ⟨w5, st, _, _, _, _, hb5.loadA0 (by kernel_rfl), _, _, _, _, rfl, by rw [e]; rfl, (g2.chg ch (fun q hq => ?_)).mono hn1.ext.le, (hn1.ext.trans y4).chg ch (by simp; omega)⟩
    have := (World.ownsRow.lt g2 q (by rw [← hq]; cases p2 <;> rfl)).1
    have := hn1.size
    simp; omega

theorem spec_l04Add_c {w : World} {xs ys : List Value} {x y : Int} (h : Reps w xs (enc x)) (k : Reps w ys (enc y)) (hx : (digs x.natAbs).length ≤ 1000000) (hy : (digs y.natAbs).length ≤ 1000000) :
    Ret P n_spec_l04Add [.agg ⟨xs⟩, .agg ⟨ys⟩] w fun v w' => ∃ vs' f, v = .agg ⟨vs'⟩ ∧ Owns w' w.heap.size vs' (icap (x + y)) f ∧ f.Nodup ∧ Ext w w' := by
  obtain ⟨a0, a1p, a1n, a1c, a1z, rfl, hd, ha⟩ := open_Signed h rfl
  obtain ⟨b0, b1p, b1n, b1c, b1z, rfl, he, hb⟩ := open_Signed k rfl
  simp only [enc, List.cons.injEq, D0.bool.injEq, D0.ints.injEq, and_true] at hd he
  obtain ⟨rfl, rfl⟩ := hd
  obtain ⟨rfl, rfl⟩ := he
  have la := ha.1; have lb := hb.1
  have ca := digs_canon x.natAbs; have cb := digs_canon y.natAbs
  have va := val_digs x.natAbs; have vb := val_digs y.natAbs
  refine spec_l04Add_ret ?_
  unfold spec_l04Add
  intro r w1 hn1 r1 w2 hn2 r2 w3 hn3
  have X := (hn1.ext.trans hn2.ext).trans hn3.ext
  have e1 := hn1.r_eq; have e2 := hn2.r_eq; have e3 := hn3.r_eq; have s1 := hn1.size; have s2 := hn2.size; have s3 := hn3.size
  have k0 := (hn1.blk.ext hn2.ext).ext hn3.ext; have k1 := hn2.blk.ext hn3.ext; have k2 := hn3.blk
  have fin : ∀ (W : World) (neg : Bool) (p : Option Addr) (n c : Nat) (z : List Int), IntsR W p n c z → Limbs z → Ext w3 W → (val z).toNat = (x + y).natAbs → ((val z).toNat ≠ 0 → neg = decide (x + y < 0)) →
      Calls P n_spec_l04Make ⟨[.bool neg, .slice p n c]⟩ W fun e_1 wv_7 => ∃ (t170 : Bool) (t171_p : Option Addr) (t171_n : Nat) (t171_c : Nat), e_1 = .returned (.agg #[(.bool t170), (.slice t171_p t171_n t171_c)]) ∧
        ∃ wv_8, Stores P T_impl_Signed ⟨r2, 0, none⟩ (.agg #[(.bool t170), (.slice t171_p t171_n t171_c)]) wv_7 wv_8 ∧
        ∃ (r0 : Bool) (r1_p : Option Addr) (r1_n : Nat) (r1_c : Nat), Loads P T_impl_Signed ⟨r2, 0, none⟩ (.agg #[(.bool r0), (.slice r1_p r1_n r1_c)]) wv_8 ∧ (fun (v : Value) (w' : World) => ∃ vs' f, v = .agg ⟨vs'⟩ ∧ Owns w' w.heap.size vs' (icap (x + y)) f ∧ f.Nodup ∧ Ext w w') (.agg #[(.bool r0), (.slice r1_p r1_n r1_c)]) wv_8 := by
    intro W neg p n c z hz hlz hW hm hs
    refine Ret.at (spec_l04Make_c hz hlz) ?_
    rintro v W2 ⟨b, q, qn, qc, hv, hbb, ho, y2⟩
    subst hv
    have hW0 := hW.le
    obtain ⟨W3, st, hb3, ch, sz⟩ := ((k2.ext hW).ext y2).storeA0 (P := P) (t := T_impl_Signed) (xs := [.bool b, .slice q qn qc]) (by kernel_rfl) rfl (by simp [Value.oneCell'])
    have ow := Owns.int2 (b := b) ho
    rw [hbb] at ow
    have ow2 : Owns W2 W.heap.size [.bool b, .slice q qn qc] (icap (x + y)) (q.map (·.block)).toList := by
      rw [← mkS_digs hm hs, hbb]; exact ow
    refine ⟨_, _, _, _, rfl, W3, st, _, _, _, _, hb3.loadA0 (by kernel_rfl), _, _, rfl, (ow2.chg1 ch (by omega)).mono (by have := X.le; omega), nodup_opt q, ((X.trans hW).trans y2).chg ch (by simp; omega)⟩
  refine ⟨_, k0.load (by kernel_rfl) rfl, _, k1.load (by kernel_rfl) rfl, fun es => ?_, fun es => ?_⟩
  · have es' : decide (x < 0) = decide (y < 0) := by simpa using es
    have D := Ext.drew w3
    refine ⟨_, fun W hW => (k0.ext (D.trans hW)).load (by kernel_rfl) rfl, _, _, _, fun W hW => (k0.ext (D.trans hW)).load (by kernel_rfl) rfl, _, _, _, fun W hW => (k1.ext (D.trans hW)).load (by kernel_rfl) rfl, ?_⟩
    refine Ret.at (spec_l02Add_c (ha.ext (X.trans D)) (hb.ext (X.trans D)) ca.1 cb.1 (by omega) (by omega)) ?_
    rintro v w4 ⟨p, n, c, o, hv, hr, hlo, hln, hvo, y4⟩
    subst hv
    rw [va, vb] at hvo
    refine ⟨_, _, _, rfl, y4, fin w4 _ p n c o hr hlo (D.trans y4) ?_ ?_⟩
    · by_cases hx0 : x < 0 <;> by_cases hy0 : y < 0 <;> simp [hx0, hy0] at es' <;> omega
    · intro h0
      by_cases hx0 : x < 0 <;> by_cases hy0 : y < 0 <;> simp [hx0, hy0] at es' ⊢ <;> omega
  · have es' : ¬ (decide (x < 0) = decide (y < 0)) := by simpa using es
    refine ⟨_, _, _, k0.load (by kernel_rfl) rfl, _, _, _, k1.load (by kernel_rfl) rfl, ?_⟩
    refine Ret.at (spec_l02Cmp_c (ha.ext X) (hb.ext X)) ?_
    rintro v w4 ⟨hv, y4⟩
    subst hv
    have cv := cmpL_val ca cb
    rw [va, vb] at cv
    have X4 := X.trans y4
    have k0 := k0.ext y4; have k1 := k1.ext y4
    have D := Ext.drew w4
    refine ⟨_, rfl, ifD (fun hge => ?_) (fun hlt => ?_)⟩
    · have hge' : y.natAbs ≤ x.natAbs := by
        rcases cv with h | h | h <;> omega
      refine ⟨_, fun W hW => (k0.ext (D.trans hW)).load (by kernel_rfl) rfl, _, _, _, fun W hW => (k0.ext (D.trans hW)).load (by kernel_rfl) rfl, _, _, _, fun W hW => (k1.ext (D.trans hW)).load (by kernel_rfl) rfl, ?_⟩
      have hll : b1n ≤ a1n := by
        rcases Nat.lt_or_ge a1n b1n with h | h
        · have := canon_len ca cb (by omega); omega
        · exact h
      refine Ret.at (spec_l02Sub_c (ha.ext (X4.trans D)) (hb.ext (X4.trans D)) ca.1 cb.1 (by omega) hll (by omega)) ?_
      rintro v w7 ⟨p, n, c, hv, hr, y7⟩
      subst hv
      rw [va, vb] at hr
      have vd := val_digs ((x.natAbs : Int) - y.natAbs).toNat
      refine ⟨_, _, _, rfl, y7, fin w7 _ p n c _ hr (digs_limbs _) ((y4.trans D).trans y7) ?_ ?_⟩
      · by_cases hx0 : x < 0 <;> by_cases hy0 : y < 0 <;> simp [hx0, hy0] at es' <;> omega
      · intro h0
        by_cases hx0 : x < 0 <;> by_cases hy0 : y < 0 <;> simp [hx0, hy0] at es' ⊢ <;> omega
    · have hlt' : x.natAbs < y.natAbs := by
        rcases cv with h | h | h <;> omega
      refine ⟨_, fun W hW => (k1.ext (D.trans hW)).load (by kernel_rfl) rfl, _, _, _, fun W hW => (k1.ext (D.trans hW)).load (by kernel_rfl) rfl, _, _, _, fun W hW => (k0.ext (D.trans hW)).load (by kernel_rfl) rfl, ?_⟩
      have hll : a1n ≤ b1n := by
        rcases Nat.lt_or_ge b1n a1n with h | h
        · have := canon_len cb ca (by omega); omega
        · exact h
      refine Ret.at (spec_l02Sub_c (hb.ext (X4.trans D)) (ha.ext (X4.trans D)) cb.1 ca.1 (by omega) hll (by omega)) ?_
      rintro v w7 ⟨p, n, c, hv, hr, y7⟩
      subst hv
      rw [va, vb] at hr
      have vd := val_digs ((y.natAbs : Int) - x.natAbs).toNat
      refine ⟨_, _, _, rfl, y7, fin w7 _ p n c _ hr (digs_limbs _) ((y4.trans D).trans y7) ?_ ?_⟩
      · by_cases hx0 : x < 0 <;> by_cases hy0 : y < 0 <;> simp [hx0, hy0] at es' <;> omega
      · intro h0
        by_cases hx0 : x < 0 <;> by_cases hy0 : y < 0 <;> simp [hx0, hy0] at es' ⊢ <;> omega

theorem spec_IntAdd_c {w : World} {xs ys : List Value} {dx dy : List D0} (h : Reps w xs dx) (k : Reps w ys dy) (hc : dx.map D0.code = [.bool, .ints]) (kc : dy.map D0.code = [.bool, .ints]) :
    Ret P n_spec_IntAdd [.agg ⟨xs⟩, .agg ⟨ys⟩] w fun v w' => ∃ vs' f, v = .agg ⟨vs'⟩ ∧ Owns w' w.heap.size vs' (iadd dx dy) f ∧ f.Nodup ∧ Ext w w' := by
  have hr := h; have kr := k
  obtain ⟨a0, a1p, a1n, a1c, a1z, rfl, hd, ha⟩ := open_Signed h hc
  obtain ⟨b0, b1p, b1n, b1c, b1z, rfl, he, hb⟩ := open_Signed k kc
  refine spec_IntAdd_ret ?_
  unfold spec_IntAdd
  intro r w1 hn1 r1 w2 hn2 r2 w3 hn3
  have X := (hn1.ext.trans hn2.ext).trans hn3.ext
  have e1 := hn1.r_eq; have e2 := hn2.r_eq; have e3 := hn3.r_eq; have s1 := hn1.size; have s2 := hn2.size; have s3 := hn3.size
  have k0 := (hn1.blk.ext hn2.ext).ext hn3.ext; have k1 := hn2.blk.ext hn3.ext; have k2 := hn3.blk
  have bad : ∀ W, Ext w3 W → (intOk dx && intOk dy) = false → ∃ wv_8, Stores P T_impl_Signed ⟨r2, 0, none⟩ (.agg #[(.bool false), (.slice none 0 0)]) W wv_8 ∧
      ∃ (r0 : Bool) (r1_p : Option Addr) (r1_n : Nat) (r1_c : Nat), Loads P T_impl_Signed ⟨r2, 0, none⟩ (.agg #[(.bool r0), (.slice r1_p r1_n r1_c)]) wv_8 ∧ (fun (v : Value) (w' : World) => ∃ vs' f, v = .agg ⟨vs'⟩ ∧ Owns w' w.heap.size vs' (iadd dx dy) f ∧ f.Nodup ∧ Ext w w') (.agg #[(.bool r0), (.slice r1_p r1_n r1_c)]) wv_8 := by
    intro W hW hno
    obtain ⟨w5, st, hb5, ch, sz⟩ := (k2.ext hW).storeA0 (P := P) (t := T_impl_Signed) (xs := [.bool false, .slice none 0 0]) (by kernel_rfl) rfl (by simp [Value.oneCell'])
    refine ⟨w5, st, _, _, _, _, hb5.loadA0 (by kernel_rfl), _, _, rfl, ?_, nodup_opt none, (X.trans hW).chg ch (by simp; omega)⟩
    have : iadd dx dy = [.bool false, .ints []] := by rw [iadd, hno, ← enc0]; rfl
    rw [this]
    exact Owns.int2 (z := []) (Own.nil w5 _ T_int 1 : Own w5 w.heap.size T_int 1 none 0 0 (([] : List Int).map (Value.int .i64)))
  refine ⟨_, _, _, _, k0.loadA0 (by kernel_rfl), ?_⟩
  refine Ret.at (spec_IntOk_c (hr.ext X) hc) ?_
  rintro v w4 ⟨hv, y4⟩
  subst hv
  refine ⟨_, rfl, ifN (fun hno => ifT (bad w4 y4 (by simp [hno]))) (fun hok1 => ?_)⟩
  refine ⟨_, _, _, _, (k1.ext y4).loadA0 (by kernel_rfl), ?_⟩
  refine Ret.at (spec_IntOk_c (kr.ext (X.trans y4)) kc) ?_
  rintro v w5 ⟨hv, y5⟩
  subst hv
  refine ⟨_, rfl, ifN (fun hno => bad w5 (y4.trans y5) (by simp [hno])) (fun hok2 => ?_)⟩
  have X5 := (X.trans y4).trans y5
  obtain ⟨ex, _, zx, hx1, cx, lx⟩ := intOk_enc hok1
  obtain ⟨ey, _, zy, hy1, cy, ly⟩ := intOk_enc hok2
  have lenx : (digs (ival dx).natAbs).length ≤ 50 := by
    rw [ex] at hx1
    simp only [enc, List.cons.injEq, D0.ints.injEq, and_true] at hx1
    rw [hx1.2]; exact lx
  have leny : (digs (ival dy).natAbs).length ≤ 50 := by
    rw [ey] at hy1
    simp only [enc, List.cons.injEq, D0.ints.injEq, and_true] at hy1
    rw [hy1.2]; exact ly
  refine ⟨_, _, _, _, ((k0.ext y4).ext y5).loadA0 (by kernel_rfl), _, _, _, _, ((k1.ext y4).ext y5).loadA0 (by kernel_rfl), ?_⟩
  refine Ret.at (spec_l04Add_c (x := ival dx) (y := ival dy) (by rw [← ex]; exact hr.ext X5) (by rw [← ey]; exact kr.ext X5) (by omega) (by omega)) ?_
  rintro v w6 ⟨vs', f, hv, ho, hnd, y6⟩
  subst hv
  obtain ⟨q0, q1p, q1n, q1c, q1z, rfl, hq, hqi⟩ := open_Signed ho.reps (icap_code _)
  have X6 := X5.trans y6
  have s4 := X5.le; have s34 := y4.le; have s35 := y5.le
  obtain ⟨w7, st, hb7, ch, sz⟩ := (((k2.ext y4).ext y5).ext y6).storeA0 (P := P) (t := T_impl_Signed) (xs := [.bool q0, .slice q1p q1n q1c]) (by kernel_rfl) rfl ho.reps.cells1
  refine ⟨_, _, _, _, rfl, w7, st, _, _, _, _, hb7.loadA0 (by kernel_rfl), _, f, rfl, ?_, hnd, X6.chg ch (by simp; omega)⟩
  have : iadd dx dy = icap (ival dx + ival dy) := by rw [iadd, hok1, hok2]; rfl
  rw [this]
  exact (ho.chg1 ch (by omega)).mono (by omega)

end Go.Proofs.YtfbmjimhjlmhkaaDoor
