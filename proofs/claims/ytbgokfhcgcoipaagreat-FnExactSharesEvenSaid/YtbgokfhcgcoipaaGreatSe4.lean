/-
  Parts of the proof of sharesEven_holds: CSpecInt, CNatOf, CDivC, CDivS, CGcd, CCmp, CDecCmp, CCopy, CRat, CRatLaw, CSpecDec, CDecMul, CDecLow, CAggE, CRatA, CRatB, Tab, CCurr, DMark, DMarkS, CUndo, CRestsNeg, CRatC, CRoundA, CRoundB, CRatM, CShareA, CShareM, CPushF, CSwap, CRowX.
  Conditions: none.
-/
import Derived.Laws.BytesArg
import Derived.Test.YtbgokfhcgcoipaaGreatSe3
set_option linter.unusedVariables false
set_option linter.unusedSimpArgs false

namespace Go.Proofs.YtbgokfhcgcoipaaGreat
open Go Go.Proofs.YtbgokfhcgcoipaaGreat.Sx
theorem digs_len : ∀ (k : Nat) {n : Nat}, n < 1000000000 ^ k -> (digs n).length <= k
  | 0, n, h => by
    have : n = 0 := by simpa using h
    subst this; simp [digs_zero]
  | k + 1, n, h => by
    by_cases h0 : n = 0
    · subst h0; simp [digs_zero]
    · rw [digs_pos h0, List.length_cons]
      have := digs_len k (n := n / 1000000000) (Nat.div_lt_of_lt_mul (by rw [Nat.mul_comm, <- Nat.pow_succ]; exact h))
      omega
theorem icap_fit {z : Int} (h : (digs z.natAbs).length <= 50) : icap z = enc z := by
  unfold icap capL
  rw [if_pos h]
  simp only [mkS, enc, isEmpty_digs]
  by_cases h0 : z < 0
  · have : z.natAbs ≠ 0 := by omega
    simp [h0]; omega
  · simp [h0]
theorem spec_l04Make_c {w : World} {neg : Bool} {p : Option Addr} {n c : Nat} {z : List Int} (h : IntsR w p n c z) (hl : Limbs z) :
    Ret P n_spec_l04Make [.bool neg, .slice p n c] w fun v w' => ∃ b p n c, v = .agg ⟨[.bool b, .slice p n c]⟩ /\ b = (neg && !(capL (digs (val z).toNat)).isEmpty) /\ Own w' w.heap.size T_int 1 p n c ((capL (digs (val z).toNat)).map (Value.int .i64)) /\ Ext w w' := by
  refine spec_l04Make_ret ?_
  unfold spec_l04Make
  intro r w1 hn1
  refine Ret.at (spec_l02Cap_c (h.ext hn1.ext)) ?_
  rintro v w2 ⟨p', n', c', hv, hw, hr⟩
  subst hv; subst hw
  rw [trimL_eq hl] at hr
  have hn' := hr.1
  have h50 : n' <= 50 := by
    have := (capL_canon (n := (val z).toNat)).2
    omega
  have e1 := hn1.r_eq
  refine ⟨_, _, _, rfl, fun e => ?_, fun e => ?_⟩
  all_goals
    intro r1 w3 hn3
    obtain ⟨p2, c2, w4, g1, g2, g3⟩ := Own.appendI (Own.fresh hn3) hn3.ext.le (hr.ext hn3.ext) (by omega)
    rw [Nat.zero_add] at g1 g2
    rw [List.nil_append] at g2
    have y4 : Ext w2 w4 := g3 w2 hn3.ext (Nat.le_refl _)
    refine ⟨_, _, _, _, g1, ?_⟩
  · obtain ⟨w5, st, hb5, ch, sz⟩ := (hn1.blk.ext y4).storeA0 (P := P) (t := T_impl_Signed) (xs := [.bool (decide ((0 : Int) < (n' : Nat))), .slice p2 n' c2]) (by kernel_rfl) rfl (by simp [Value.oneCell'])
    refine ⟨w5, st, _, _, _, _, hb5.loadA0 (by kernel_rfl), _, _, _, _, rfl, by rw [len_bool hn', e]; rfl, (g2.chg ch (fun q hq => ?_)).mono hn1.ext.le, (hn1.ext.trans y4).chg ch (by simp; omega)⟩
    have := (World.ownsRow.lt g2 q (by rw [<- hq]; cases p2 <;> rfl)).1
    have := hn1.size
    simp; omega
  · obtain ⟨w5, st, hb5, ch, sz⟩ := (hn1.blk.ext y4).storeA0 (P := P) (t := T_impl_Signed) (xs := [.bool false, .slice p2 n' c2]) (by kernel_rfl) rfl (by simp [Value.oneCell'])
    refine ⟨w5, st, _, _, _, _, hb5.loadA0 (by kernel_rfl), _, _, _, _, rfl, by rw [e]; rfl, (g2.chg ch (fun q hq => ?_)).mono hn1.ext.le, (hn1.ext.trans y4).chg ch (by simp; omega)⟩
    have := (World.ownsRow.lt g2 q (by rw [<- hq]; cases p2 <;> rfl)).1
    have := hn1.size
    simp; omega
theorem spec_l04Add_c {w : World} {xs ys : List Value} {x y : Int} (h : Reps w xs (enc x)) (k : Reps w ys (enc y)) (hx : (digs x.natAbs).length <= 1000000) (hy : (digs y.natAbs).length <= 1000000) :
    Ret P n_spec_l04Add [.agg ⟨xs⟩, .agg ⟨ys⟩] w fun v w' => ∃ vs' f, v = .agg ⟨vs'⟩ /\ Owns w' w.heap.size vs' (icap (x + y)) f /\ f.Nodup /\ Ext w w' := by
  obtain ⟨a0, a1p, a1n, a1c, a1z, rfl, hd, ha⟩ := open_Signed h rfl
  obtain ⟨b0, b1p, b1n, b1c, b1z, rfl, he, hb⟩ := open_Signed k rfl
  simp only [enc, List.cons.injEq, D0.bool.injEq, D0.ints.injEq, and_true] at hd he
  obtain ⟨rfl, rfl⟩ := hd
  obtain ⟨rfl, rfl⟩ := he
  have la := ha.1; have lb := hb.1
  have ca := digs_canon x.natAbs; have cb := digs_canon y.natAbs
  have va := val_digs x.natAbs; have vb := val_digs y.natAbs
  refine spec_l04Add_ret ?_
  unfold spec_l04Add
  intro r w1 hn1 r1 w2 hn2 r2 w3 hn3
  have X := (hn1.ext.trans hn2.ext).trans hn3.ext
  have e1 := hn1.r_eq; have e2 := hn2.r_eq; have e3 := hn3.r_eq; have s1 := hn1.size; have s2 := hn2.size; have s3 := hn3.size
  have k0 := (hn1.blk.ext hn2.ext).ext hn3.ext; have k1 := hn2.blk.ext hn3.ext; have k2 := hn3.blk
  have fin : ∀ (W : World) (neg : Bool) (p : Option Addr) (n c : Nat) (z : List Int), IntsR W p n c z -> Limbs z -> Ext w3 W -> (val z).toNat = (x + y).natAbs -> ((val z).toNat ≠ 0 -> neg = decide (x + y < 0)) ->
      Calls P n_spec_l04Make ⟨[.bool neg, .slice p n c]⟩ W fun e_1 wv_7 => ∃ (t170 : Bool) (t171_p : Option Addr) (t171_n : Nat) (t171_c : Nat), e_1 = .returned (.agg #[(.bool t170), (.slice t171_p t171_n t171_c)]) /\
        ∃ wv_8, Stores P T_impl_Signed ⟨r2, 0, none⟩ (.agg #[(.bool t170), (.slice t171_p t171_n t171_c)]) wv_7 wv_8 /\
        ∃ (r0 : Bool) (r1_p : Option Addr) (r1_n : Nat) (r1_c : Nat), Loads P T_impl_Signed ⟨r2, 0, none⟩ (.agg #[(.bool r0), (.slice r1_p r1_n r1_c)]) wv_8 /\ (fun (v : Value) (w' : World) => ∃ vs' f, v = .agg ⟨vs'⟩ /\ Owns w' w.heap.size vs' (icap (x + y)) f /\ f.Nodup /\ Ext w w') (.agg #[(.bool r0), (.slice r1_p r1_n r1_c)]) wv_8 := by
    intro W neg p n c z hz hlz hW hm hs
    refine Ret.at (spec_l04Make_c hz hlz) ?_
    rintro v W2 ⟨b, q, qn, qc, hv, hbb, ho, y2⟩
    subst hv
    have hW0 := hW.le
    obtain ⟨W3, st, hb3, ch, sz⟩ := ((k2.ext hW).ext y2).storeA0 (P := P) (t := T_impl_Signed) (xs := [.bool b, .slice q qn qc]) (by kernel_rfl) rfl (by simp [Value.oneCell'])
    have ow := Owns.int2 (b := b) ho
    rw [hbb] at ow
    have ow2 : Owns W2 W.heap.size [.bool b, .slice q qn qc] (icap (x + y)) (q.map (·.block)).toList := by
      rw [<- mkS_digs hm hs, hbb]; exact ow
    refine ⟨_, _, _, _, rfl, W3, st, _, _, _, _, hb3.loadA0 (by kernel_rfl), _, _, rfl, (ow2.chg1 ch (by omega)).mono (by have := X.le; omega), nodup_opt q, ((X.trans hW).trans y2).chg ch (by simp; omega)⟩
  refine ⟨_, k0.load (by kernel_rfl) rfl, _, k1.load (by kernel_rfl) rfl, fun es => ?_, fun es => ?_⟩
  · have es' : decide (x < 0) = decide (y < 0) := by simpa using es
    have D := Ext.drew w3
    refine ⟨_, fun W hW => (k0.ext (D.trans hW)).load (by kernel_rfl) rfl, _, _, _, fun W hW => (k0.ext (D.trans hW)).load (by kernel_rfl) rfl, _, _, _, fun W hW => (k1.ext (D.trans hW)).load (by kernel_rfl) rfl, ?_⟩
    refine Ret.at (spec_l02Add_c (ha.ext (X.trans D)) (hb.ext (X.trans D)) ca.1 cb.1 (by omega) (by omega)) ?_
    rintro v w4 ⟨p, n, c, o, hv, hr, hlo, hln, hvo, y4⟩
    subst hv
    rw [va, vb] at hvo
    refine ⟨_, _, _, rfl, y4, fin w4 _ p n c o hr hlo (D.trans y4) ?_ ?_⟩
    · by_cases hx0 : x < 0 <;> by_cases hy0 : y < 0 <;> simp [hx0, hy0] at es' <;> omega
    · intro h0
      by_cases hx0 : x < 0 <;> by_cases hy0 : y < 0 <;> simp [hx0, hy0] at es' ⊢ <;> omega
  · have es' : ¬ (decide (x < 0) = decide (y < 0)) := by simpa using es
    refine ⟨_, _, _, k0.load (by kernel_rfl) rfl, _, _, _, k1.load (by kernel_rfl) rfl, ?_⟩
    refine Ret.at (spec_l02Cmp_c (ha.ext X) (hb.ext X)) ?_
    rintro v w4 ⟨hv, y4⟩
    subst hv
    have cv := cmpL_val ca cb
    rw [va, vb] at cv
    have X4 := X.trans y4
    have k0 := k0.ext y4; have k1 := k1.ext y4
    have D := Ext.drew w4
    refine ⟨_, rfl, ifD (fun hge => ?_) (fun hlt => ?_)⟩
    · have hge' : y.natAbs <= x.natAbs := by
        rcases cv with h | h | h <;> omega
      refine ⟨_, fun W hW => (k0.ext (D.trans hW)).load (by kernel_rfl) rfl, _, _, _, fun W hW => (k0.ext (D.trans hW)).load (by kernel_rfl) rfl, _, _, _, fun W hW => (k1.ext (D.trans hW)).load (by kernel_rfl) rfl, ?_⟩
      have hll : b1n <= a1n := by
        rcases Nat.lt_or_ge a1n b1n with h | h
        · have := canon_len ca cb (by omega); omega
        · exact h
      refine Ret.at (spec_l02Sub_c (ha.ext (X4.trans D)) (hb.ext (X4.trans D)) ca.1 cb.1 (by omega) hll (by omega)) ?_
      rintro v w7 ⟨p, n, c, hv, hr, y7⟩
      subst hv
      rw [va, vb] at hr
      have vd := val_digs ((x.natAbs : Int) - y.natAbs).toNat
      refine ⟨_, _, _, rfl, y7, fin w7 _ p n c _ hr (digs_limbs _) ((y4.trans D).trans y7) ?_ ?_⟩
      · by_cases hx0 : x < 0 <;> by_cases hy0 : y < 0 <;> simp [hx0, hy0] at es' <;> omega
      · intro h0
        by_cases hx0 : x < 0 <;> by_cases hy0 : y < 0 <;> simp [hx0, hy0] at es' ⊢ <;> omega
    · have hlt' : x.natAbs < y.natAbs := by
        rcases cv with h | h | h <;> omega
      refine ⟨_, fun W hW => (k1.ext (D.trans hW)).load (by kernel_rfl) rfl, _, _, _, fun W hW => (k1.ext (D.trans hW)).load (by kernel_rfl) rfl, _, _, _, fun W hW => (k0.ext (D.trans hW)).load (by kernel_rfl) rfl, ?_⟩
      have hll : a1n <= b1n := by
        rcases Nat.lt_or_ge b1n a1n with h | h
        · have := canon_len cb ca (by omega); omega
        · exact h
      refine Ret.at (spec_l02Sub_c (hb.ext (X4.trans D)) (ha.ext (X4.trans D)) cb.1 ca.1 (by omega) hll (by omega)) ?_
      rintro v w7 ⟨p, n, c, hv, hr, y7⟩
      subst hv
      rw [va, vb] at hr
      have vd := val_digs ((y.natAbs : Int) - x.natAbs).toNat
      refine ⟨_, _, _, rfl, y7, fin w7 _ p n c _ hr (digs_limbs _) ((y4.trans D).trans y7) ?_ ?_⟩
      · by_cases hx0 : x < 0 <;> by_cases hy0 : y < 0 <;> simp [hx0, hy0] at es' <;> omega
      · intro h0
        by_cases hx0 : x < 0 <;> by_cases hy0 : y < 0 <;> simp [hx0, hy0] at es' ⊢ <;> omega
theorem spec_IntAdd_c {w : World} {xs ys : List Value} {dx dy : List D0} (h : Reps w xs dx) (k : Reps w ys dy) (hc : dx.map D0.code = [.bool, .ints]) (kc : dy.map D0.code = [.bool, .ints]) :
    Ret P n_spec_IntAdd [.agg ⟨xs⟩, .agg ⟨ys⟩] w fun v w' => ∃ vs' f, v = .agg ⟨vs'⟩ /\ Owns w' w.heap.size vs' (iadd dx dy) f /\ f.Nodup /\ Ext w w' := by
  have hr := h; have kr := k
  obtain ⟨a0, a1p, a1n, a1c, a1z, rfl, hd, ha⟩ := open_Signed h hc
  obtain ⟨b0, b1p, b1n, b1c, b1z, rfl, he, hb⟩ := open_Signed k kc
  refine spec_IntAdd_ret ?_
  unfold spec_IntAdd
  intro r w1 hn1 r1 w2 hn2 r2 w3 hn3
  have X := (hn1.ext.trans hn2.ext).trans hn3.ext
  have e1 := hn1.r_eq; have e2 := hn2.r_eq; have e3 := hn3.r_eq; have s1 := hn1.size; have s2 := hn2.size; have s3 := hn3.size
  have k0 := (hn1.blk.ext hn2.ext).ext hn3.ext; have k1 := hn2.blk.ext hn3.ext; have k2 := hn3.blk
  have bad : ∀ W, Ext w3 W -> (intOk dx && intOk dy) = false -> ∃ wv_8, Stores P T_impl_Signed ⟨r2, 0, none⟩ (.agg #[(.bool false), (.slice none 0 0)]) W wv_8 /\
      ∃ (r0 : Bool) (r1_p : Option Addr) (r1_n : Nat) (r1_c : Nat), Loads P T_impl_Signed ⟨r2, 0, none⟩ (.agg #[(.bool r0), (.slice r1_p r1_n r1_c)]) wv_8 /\ (fun (v : Value) (w' : World) => ∃ vs' f, v = .agg ⟨vs'⟩ /\ Owns w' w.heap.size vs' (iadd dx dy) f /\ f.Nodup /\ Ext w w') (.agg #[(.bool r0), (.slice r1_p r1_n r1_c)]) wv_8 := by
    intro W hW hno
    obtain ⟨w5, st, hb5, ch, sz⟩ := (k2.ext hW).storeA0 (P := P) (t := T_impl_Signed) (xs := [.bool false, .slice none 0 0]) (by kernel_rfl) rfl (by simp [Value.oneCell'])
    refine ⟨w5, st, _, _, _, _, hb5.loadA0 (by kernel_rfl), _, _, rfl, ?_, nodup_opt none, (X.trans hW).chg ch (by simp; omega)⟩
    have : iadd dx dy = [.bool false, .ints []] := by rw [iadd, hno, <- enc0]; rfl
    rw [this]
    exact Owns.int2 (z := []) (Own.nil w5 _ T_int 1 : Own w5 w.heap.size T_int 1 none 0 0 (([] : List Int).map (Value.int .i64)))
  refine ⟨_, _, _, _, k0.loadA0 (by kernel_rfl), ?_⟩
  refine Ret.at (spec_IntOk_c (hr.ext X) hc) ?_
  rintro v w4 ⟨hv, y4⟩
  subst hv
  refine ⟨_, rfl, ifN (fun hno => ifT (bad w4 y4 (by simp [hno]))) (fun hok1 => ?_)⟩
  refine ⟨_, _, _, _, (k1.ext y4).loadA0 (by kernel_rfl), ?_⟩
  refine Ret.at (spec_IntOk_c (kr.ext (X.trans y4)) kc) ?_
  rintro v w5 ⟨hv, y5⟩
  subst hv
  refine ⟨_, rfl, ifN (fun hno => bad w5 (y4.trans y5) (by simp [hno])) (fun hok2 => ?_)⟩
  have X5 := (X.trans y4).trans y5
  obtain ⟨ex, _, zx, hx1, cx, lx⟩ := intOk_enc hok1
  obtain ⟨ey, _, zy, hy1, cy, ly⟩ := intOk_enc hok2
  have lenx : (digs (ival dx).natAbs).length <= 50 := by
    rw [ex] at hx1
    simp only [enc, List.cons.injEq, D0.ints.injEq, and_true] at hx1
    rw [hx1.2]; exact lx
  have leny : (digs (ival dy).natAbs).length <= 50 := by
    rw [ey] at hy1
    simp only [enc, List.cons.injEq, D0.ints.injEq, and_true] at hy1
    rw [hy1.2]; exact ly
  refine ⟨_, _, _, _, ((k0.ext y4).ext y5).loadA0 (by kernel_rfl), _, _, _, _, ((k1.ext y4).ext y5).loadA0 (by kernel_rfl), ?_⟩
  refine Ret.at (spec_l04Add_c (x := ival dx) (y := ival dy) (by rw [<- ex]; exact hr.ext X5) (by rw [<- ey]; exact kr.ext X5) (by omega) (by omega)) ?_
  rintro v w6 ⟨vs', f, hv, ho, hnd, y6⟩
  subst hv
  obtain ⟨q0, q1p, q1n, q1c, q1z, rfl, hq, hqi⟩ := open_Signed ho.reps (icap_code _)
  have X6 := X5.trans y6
  have s4 := X5.le; have s34 := y4.le; have s35 := y5.le
  obtain ⟨w7, st, hb7, ch, sz⟩ := (((k2.ext y4).ext y5).ext y6).storeA0 (P := P) (t := T_impl_Signed) (xs := [.bool q0, .slice q1p q1n q1c]) (by kernel_rfl) rfl ho.reps.cells1
  refine ⟨_, _, _, _, rfl, w7, st, _, _, _, _, hb7.loadA0 (by kernel_rfl), _, f, rfl, ?_, hnd, X6.chg ch (by simp; omega)⟩
  have : iadd dx dy = icap (ival dx + ival dy) := by rw [iadd, hok1, hok2]; rfl
  rw [this]
  exact (ho.chg1 ch (by omega)).mono (by omega)
end Go.Proofs.YtbgokfhcgcoipaaGreat
namespace Go.Proofs.YtbgokfhcgcoipaaGreat
open Go Go.Proofs.YtbgokfhcgcoipaaGreat.Sx
theorem digs_split {o : List Int} {N n : Nat} (h : digs N = o ++ digs n) (hn : 0 < n) : digs N = (o ++ [((n % 1000000000 : Nat) : Int)]) ++ digs (n / 1000000000) := by
  rw [h, digs_pos (by omega)]; simp
def room (on : Nat) (n : Int) : Prop := (on = 0 /\ n < 1000000000000000000000000000) ∨ (on = 1 /\ n < 1000000000000000000) ∨ (on = 2 /\ n < 1000000000) ∨ (on = 3 /\ n < 1)
theorem room_next {on : Nat} {n : Int} (h : room on n) (h0 : 0 < n) : room (on + 1) (n / 1000000000) /\ on <= 2 := by
  unfold room at h ⊢
  omega
theorem spec_NatOf_c {w : World} {n : Int} (h0 : 0 <= n) (h1 : n <= 9223372036854775807) :
    Ret P n_spec_NatOf [.int .i64 n] w fun v w' => ∃ p' n' c', v = .slice p' n' c' /\ Own w' w.heap.size T_int 1 p' n' c' ((digs n.toNat).map (Value.int .i64)) /\ Ext w w' := by
  refine spec_NatOf_ret ?_
  unfold spec_NatOf
  intro r w1 hn1
  refine ⟨fun m p on c wr => ∃ o : List Int, 0 <= m /\ room on m /\ m <= n /\ Own wr w.heap.size T_int 1 p on c (o.map (Value.int .i64)) /\ Ext w wr /\ digs n.toNat = o ++ digs m.toNat, fun m _ _ _ _ => m.toNat,
    ⟨[], h0, by unfold room; omega, Int.le_refl _, Own.fresh hn1, hn1.ext, rfl⟩, ?_⟩
  intro junk wr m p on c ⟨o, hm0, hrm, hmn, hown, hx, hd⟩
  refine ifD (fun hpos => ?_) (fun hz => ?_)
  · obtain ⟨hr2, hon⟩ := room_next hrm hpos
    refine ⟨by decide, _, rfl, fun r1 w2 hn2 => ?_⟩
    rw [tmod_limb hm0] at hn2
    obtain ⟨p', c', w3, g1, g2, g3⟩ := Own.push hown hx.le hn2 (by omega)
    refine ⟨_, _, _, _, g1, by decide, ?_⟩
    rw [tdiv_limb hm0]
    refine exW ⟨by omega, by omega⟩ ⟨⟨_, by omega, hr2, by omega, g2, g3 w hx (Nat.le_refl _), ?_⟩, ?_⟩
    · have := digs_split hd (show 0 < m.toNat by omega)
      have e1 : ((m.toNat % 1000000000 : Nat) : Int) = m % 1000000000 := by omega
      have e2 : m.toNat / 1000000000 = (m / 1000000000).toNat := by omega
      rw [this, e1, e2]
    · show (m / 1000000000).toNat < m.toNat
      omega
  · have : m.toNat = 0 := by omega
    rw [this, digs_zero, List.append_nil] at hd
    exact ⟨_, _, _, rfl, by rw [hd]; exact hown, hx⟩
theorem impl_natOf_c {w : World} {n : Int} (h0 : 0 <= n) (h1 : n <= 18446744073709551615) :
    Ret P n_impl_natOf [.int .u64 n] w fun v w' => ∃ p' n' c', v = .slice p' n' c' /\ Own w' w.heap.size T_int 1 p' n' c' ((digs n.toNat).map (Value.int .i64)) /\ Ext w w' := by
  refine impl_natOf_ret ?_
  unfold impl_natOf
  intro r w1 hn1
  refine ⟨fun m p on c wr => ∃ o : List Int, 0 <= m /\ room on m /\ m <= n /\ Own wr w.heap.size T_int 1 p on c (o.map (Value.int .i64)) /\ Ext w wr /\ digs n.toNat = o ++ digs m.toNat, fun m _ _ _ _ => m.toNat,
    ⟨[], h0, by unfold room; omega, Int.le_refl _, Own.fresh hn1, hn1.ext, rfl⟩, ?_⟩
  intro junk wr m p on c ⟨o, hm0, hrm, hmn, hown, hx, hd⟩
  refine ifD (fun hpos => ?_) (fun hz => ?_)
  · obtain ⟨hr2, hon⟩ := room_next hrm hpos
    refine ⟨by decide, _, rfl, ?_⟩
    rw [tmod_limb hm0]
    refine exW ⟨by omega, by omega⟩ (fun r1 w2 hn2 => ?_)
    obtain ⟨p', c', w3, g1, g2, g3⟩ := Own.push hown hx.le hn2 (by omega)
    refine ⟨_, _, _, _, g1, by decide, ?_⟩
    rw [tdiv_limb hm0]
    have wu : IntKind.wrap .u64 (m / 1000000000) = m / 1000000000 := by
      simp only [IntKind.wrap, IntKind.bits, IntKind.signed]
      simp
      omega
    refine ⟨_, rfl, ?_⟩
    rw [wu]
    refine ⟨⟨_, by omega, hr2, by omega, g2, g3 w hx (Nat.le_refl _), ?_⟩, ?_⟩
    · have := digs_split hd (show 0 < m.toNat by omega)
      have e1 : ((m.toNat % 1000000000 : Nat) : Int) = m % 1000000000 := by omega
      have e2 : m.toNat / 1000000000 = (m / 1000000000).toNat := by omega
      rw [this, e1, e2]
    · show (m / 1000000000).toNat < m.toNat
      omega
  · have : m.toNat = 0 := by omega
    rw [this, digs_zero, List.append_nil] at hd
    exact ⟨_, _, _, rfl, by rw [hd]; exact hown, hx⟩
theorem digs_len3 {n : Nat} (h : n < 1000000000000000000000000000) : (digs n).length <= 3 := by
  by_cases h1 : n = 0
  · subst h1; simp [digs_zero]
  · rw [digs_pos h1]
    by_cases h2 : n / 1000000000 = 0
    · rw [h2, digs_zero]; simp
    · rw [digs_pos h2]
      by_cases h3 : n / 1000000000 / 1000000000 = 0
      · rw [h3, digs_zero]; simp
      · rw [digs_pos h3]
        have h4 : n / 1000000000 / 1000000000 / 1000000000 = 0 := by omega
        rw [h4, digs_zero]; simp
theorem icap_small {z : Int} (h : z.natAbs < 1000000000000000000000000000) : icap z = enc z := by
  have hl := digs_len3 h
  unfold icap capL
  rw [if_pos (by omega)]
  simp only [mkS, enc, isEmpty_digs]
  by_cases h0 : z < 0
  · have : z.natAbs ≠ 0 := by omega
    simp [h0]; omega
  · simp [h0]
theorem spec_IntOf_c {w : World} {n : Int} (h0 : -9223372036854775808 <= n) (h1 : n <= 9223372036854775807) :
    Ret P n_spec_IntOf [.int .i64 n] w fun v w' => ∃ vs' f, v = .agg ⟨vs'⟩ /\ Owns w' w.heap.size vs' (enc n) f /\ f.Nodup /\ Ext w w' := by
  refine spec_IntOf_ret ?_
  unfold spec_IntOf
  intro r w1 hn1
  have e1 := hn1.r_eq; have s1 := hn1.size
  have fin : ∀ (W : World) (neg : Bool) (p : Option Addr) (m c : Nat) (z : List Int), IntsR W p m c z -> Limbs z -> Ext w1 W -> (val z).toNat = n.natAbs -> ((val z).toNat ≠ 0 -> neg = decide (n < 0)) ->
      Calls P n_spec_l04Make ⟨[.bool neg, .slice p m c]⟩ W fun e_1 wv_7 => ∃ (t170 : Bool) (t171_p : Option Addr) (t171_n : Nat) (t171_c : Nat), e_1 = .returned (.agg #[(.bool t170), (.slice t171_p t171_n t171_c)]) /\
        ∃ wv_8, Stores P T_impl_Signed ⟨r, 0, none⟩ (.agg #[(.bool t170), (.slice t171_p t171_n t171_c)]) wv_7 wv_8 /\
        ∃ (r0 : Bool) (r1_p : Option Addr) (r1_n : Nat) (r1_c : Nat), Loads P T_impl_Signed ⟨r, 0, none⟩ (.agg #[(.bool r0), (.slice r1_p r1_n r1_c)]) wv_8 /\ (fun (v : Value) (w' : World) => ∃ vs' f, v = .agg ⟨vs'⟩ /\ Owns w' w.heap.size vs' (enc n) f /\ f.Nodup /\ Ext w w') (.agg #[(.bool r0), (.slice r1_p r1_n r1_c)]) wv_8 := by
    intro W neg p m c z hz hlz hW hm hs
    refine Ret.at (spec_l04Make_c hz hlz) ?_
    rintro v W2 ⟨b, q, qn, qc, hv, hbb, ho, y2⟩
    subst hv
    have hW0 := hW.le
    obtain ⟨W3, st, hb3, ch, sz⟩ := ((hn1.blk.ext hW).ext y2).storeA0 (P := P) (t := T_impl_Signed) (xs := [.bool b, .slice q qn qc]) (by kernel_rfl) rfl (by simp [Value.oneCell'])
    have ow2 : Owns W2 W.heap.size [.bool b, .slice q qn qc] (enc n) (q.map (·.block)).toList := by
      rw [<- icap_small (by omega), <- mkS_digs hm hs, hbb]; exact Owns.int2 ho
    exact ⟨_, _, _, _, rfl, W3, st, _, _, _, _, hb3.loadA0 (by kernel_rfl), _, _, rfl, (ow2.chg1 ch (by omega)).mono (by omega), nodup_opt q, ((hn1.ext.trans hW).trans y2).chg ch (by simp; omega)⟩
  refine ifD (fun hmin => ?_) (fun hnm => ifD (fun hneg => ?_) (fun hpos => ?_))
  · intro r1 w2 hn2
    refine fin w2 true _ 3 3 [854775808, 223372036, 9] ⟨rfl, Nat.le_refl _, by omega, fun _ => ⟨r1, 0, rfl, hn2.blk.seg⟩⟩ (fun x hx => by simp at hx; omega) hn2.ext ?_ ?_
    · simp [val]; omega
    · intro _; simp; omega
  · have w6 : IntKind.wrap .i64 (0 - n) = -n := by
      simp only [IntKind.wrap, IntKind.bits, IntKind.signed]
      simp
      omega
    refine ⟨_, rfl, ?_⟩
    rw [w6]
    refine Ret.at (spec_NatOf_c (by omega) (by omega)) ?_
    rintro v w2 ⟨p, m, c, hv, ho, y⟩
    subst hv
    refine ⟨_, _, _, rfl, fin w2 true p m c _ ho.ints (digs_limbs _) y ?_ ?_⟩
    · rw [val_digs]; omega
    · intro _; simp [hneg]
  · refine Ret.at (spec_NatOf_c (by omega) (by omega)) ?_
    rintro v w2 ⟨p, m, c, hv, ho, y⟩
    subst hv
    refine ⟨_, _, _, rfl, fin w2 false p m c _ ho.ints (digs_limbs _) y ?_ ?_⟩
    · rw [val_digs]; omega
    · intro _; simp; omega
end Go.Proofs.YtbgokfhcgcoipaaGreat
namespace Go.Proofs.YtbgokfhcgcoipaaGreat
open Go Go.Proofs.YtbgokfhcgcoipaaGreat.Sx
theorem val_zeros' (k : Nat) : val (List.replicate k 0) = 0 := by
  induction k with
  | zero => rfl
  | succ s ih => simp [List.replicate_succ, val, ih]
theorem Limbs.zeros (k : Nat) : Limbs (List.replicate k 0) := fun x hx => by simp at hx; omega
theorem pow_mono9 {i j : Nat} (h : i <= j) : (1000000000 : Int) ^ i <= 1000000000 ^ j := by
  have := Int.ofNat_le.2 (Nat.pow_le_pow_right (n := 1000000000) (by decide) h)
  simpa using this
theorem digs_lenI {z : Int} {k : Nat} (h0 : 0 <= z) (h : z < 1000000000 ^ k) : (digs z.toNat).length <= k := by
  apply digs_len
  have : ((z.toNat : Nat) : Int) < ((1000000000 ^ k : Nat) : Int) := by rw [Int.toNat_of_nonneg h0]; simpa using h
  exact Int.ofNat_lt.1 this
theorem digs_lenI' {z : Int} {k : Nat} (h0 : 0 <= z) (h : 1000000000 ^ k <= z) : k < (digs z.toNat).length := by
  rcases Nat.lt_or_ge k (digs z.toNat).length with g | g
  · exact g
  · exfalso
    have h1 := val_lt (digs_limbs z.toNat)
    rw [val_digs, Int.toNat_of_nonneg h0] at h1
    have := pow_mono9 g
    omega
theorem val_digsI {z : Int} (h : 0 <= z) : val (digs z.toNat) = z := by rw [val_digs, Int.toNat_of_nonneg h]
theorem canon_top {b : List Int} {m : Nat} (h : Canon b) (hl : b.length = m + 1) : 1 <= b.getD m 0 := by
  have h1 := h.2
  rw [getLast_getD (by omega), hl, Nat.add_sub_cancel] at h1
  have h2 := h.1.getD m
  have : b.getD m 0 ≠ 0 := fun e => h1 (by rw [e])
  omega
theorem impl_NatOf_c {w : World} {n : Int} (h0 : 0 <= n) (h1 : n <= 9223372036854775807) :
    Ret P n_impl_NatOf [.int .i64 n] w fun v w' => ∃ p' n' c', v = .slice p' n' c' /\ Own w' w.heap.size T_int 1 p' n' c' ((digs n.toNat).map (Value.int .i64)) /\ Ext w w' := by
  refine impl_NatOf_ret ?_
  unfold impl_NatOf
  refine ifD (fun h => absurd h (by omega)) (fun _ => ?_)
  have e : IntKind.wrap .u64 n = n := by
    have : (IntKind.wrap .u64 n) = n % 18446744073709551616 := rfl
    rw [this]; omega
  refine ⟨n, e.symm, ?_⟩
  refine Ret.at (impl_natOf_c h0 (by omega)) ?_
  rintro v w1 ⟨p', n', c', hv, ho, hx⟩
  subst hv
  exact ⟨_, _, _, rfl, _, _, _, rfl, ho, hx⟩
theorem impl_natDiv_c {w : World} {p q : Option Addr} {n c m d : Nat} {a b : List Int} (h : IntsR w p n c a) (k : IntsR w q m d b) (ha : Canon a) (hb : Canon b) (hb0 : 0 < m) (hn : n <= 100000) (hm : m <= 100000) :
    Ret P n_impl_natDiv [.slice p n c, .slice q m d] w fun v w' => ∃ p1 n1 c1 p2 n2 c2, v = .tuple #[.slice p1 n1 c1, .slice p2 n2 c2] /\ Own w' w.heap.size T_int 1 p1 n1 c1 ((digs (val a / val b).toNat).map (Value.int .i64)) /\ Own w' w.heap.size T_int 1 p2 n2 c2 ((digs (val a % val b).toNat).map (Value.int .i64)) /\ (∀ z, p1.map (·.block) = some z -> p2.map (·.block) ≠ some z) /\ Ext w w' := by
  refine impl_natDiv_ret ?_
  unfold impl_natDiv
  have hla := h.1; have hlb := k.1
  have va0 := val_nonneg ha.1
  have vb0 : 0 < val b := canon_pos hb (by intro e; rw [e] at hlb; simp at hlb; omega)
  refine Ret.at (impl_natCmp_c h k) ?_
  rintro v w1 ⟨hv, y1⟩
  subst hv
  refine ⟨_, rfl, ifD (fun hlt => ?_) (fun hge => ifD (fun hone => ?_) (fun hmore => ?_))⟩
  · have hab : val a < val b := by rcases cmpL_val ha hb with h | h | h <;> omega
    intro r w2 hn2
    have e2 := hn2.r_eq
    have x2 := y1.trans hn2.ext
    refine Ret.at (impl_natCopy_c (h.ext x2) (by omega)) ?_
    rintro v w3 ⟨p', c', hv, ho, y3⟩
    subst hv
    refine ⟨_, _, _, rfl, _, _, _, _, _, _, rfl, ?_, ?_, ?_, x2.trans y3⟩
    · rw [Int.ediv_eq_zero_of_lt va0 hab]
      simp only [Int.toNat_zero, digs_zero]
      exact (((Own.fresh hn2).ext y3).mono (by have := y1.le; omega))
    · rw [Int.emod_eq_of_lt va0 hab, digs_val ha]
      exact ho.mono x2.le
    · intro z hz hz2
      have := (World.ownsRow.lt ho z (by rw [<- hz2]; cases p' <;> rfl)).1
      simp at hz
      have := hn2.size
      omega
  · have hm1 : m = 1 := by omega
    subst hm1
    have hB := hb.1.getD 0
    have hT := canon_top (m := 0) hb (by omega)
    have ev : val b = b.getD 0 0 := by
      have := val_top (m := 0) hlb
      simpa [val] using this
    obtain ⟨ad, rfl, hl⟩ := ints_at (k.ext y1) (i := 0) (by omega) (by omega)
    refine ⟨⟨by omega, by omega⟩, _, by simpa only [Int.toNat_zero] using hl, ?_⟩
    rw [ev]
    simp only [Int.toNat_zero]
    refine Ret.at (impl_natSmall_c (h.ext y1) ha.1 ⟨by omega, by omega⟩ (by omega)) ?_
    rintro v w2 ⟨p1, n1, c1, hv, o1, y2⟩
    subst hv
    have Z0 := Int.emod_nonneg (val a) (show b.getD 0 0 ≠ 0 by omega)
    have Z1 := Int.emod_lt_of_pos (val a) (show 0 < b.getD 0 0 by omega)
    refine ⟨_, _, _, _, rfl, ?_⟩
    refine Ret.at (impl_NatOf_c Z0 (by omega)) ?_
    rintro v w3 ⟨p2, n2, c2, hv, o2, y3⟩
    subst hv
    refine ⟨_, _, _, rfl, _, _, _, _, _, _, rfl, (o1.ext y3).mono y1.le, o2.mono (by have := y1.le; have := y2.le; omega), fun z hz hz2 => ?_, y1.trans (y2.trans y3)⟩
    have := (World.ownsRow.lt o2 z (by rw [<- hz2]; cases p2 <;> rfl)).1
    have := (World.ownsRow.lt o1 z (by rw [<- hz]; cases p1 <;> rfl)).2
    omega
  · have hab : val b <= val a := by rcases cmpL_val ha hb with h | h | h <;> omega
    obtain ⟨t, rfl⟩ : ∃ t, m = t + 1 := ⟨m - 1, by omega⟩
    have hB := hb.1.getD t
    have hT := canon_top hb hlb
    have hmn : t + 1 <= n := by
      rcases Nat.lt_or_ge n (t + 1) with g | g
      · have := canon_len ha hb (by omega); omega
      · exact g
    have S0 : 1 <= 1000000000 / (b.getD t 0 + 1) := Int.le_ediv_of_mul_le (by omega) (by omega)
    have S1 : 1000000000 / (b.getD t 0 + 1) <= 500000000 := by
      have : 1000000000 / (b.getD t 0 + 1) < 500000001 := Int.ediv_lt_of_lt_mul (by omega) (by omega)
      omega
    have S2 : 1000000000 / (b.getD t 0 + 1) * (b.getD t 0 + 1) <= 1000000000 := Int.ediv_mul_le _ (by omega)
    generalize hsc : 1000000000 / (b.getD t 0 + 1) = sc at S0 S1 S2
    obtain ⟨ad, rfl, hl⟩ := ints_at (k.ext y1) (i := (t : Int)) (by omega) (by omega)
    simp only [Int.toNat_natCast] at hl
    have i1 : ((t + 1 : Nat) : Int) - 1 = (t : Int) := by omega
    rw [i1]
    refine exW ⟨by omega, by omega⟩ ⟨⟨by omega, by omega⟩, _, by simpa only [Int.toNat_natCast] using hl, exW ⟨by omega, by omega⟩ ⟨by omega, ?_⟩⟩
    rw [Int.tdiv_eq_ediv_of_nonneg (by omega), hsc]
    refine exW ⟨by omega, by omega⟩ fun r1 w2 hn2 => ?_
    have e2 := hn2.r_eq
    have x2 := y1.trans hn2.ext
    have one : ∀ {W W' : World} {r : Nat}, New W (.cells ⟨[.int .i64 sc]⟩ T_int (0, 0)) r W' -> IntsR W' (some ⟨r, 0, none⟩) 1 1 [sc] := fun hn => ⟨rfl, Nat.le_refl _, by omega, fun _ => ⟨_, 0, rfl, hn.blk.seg⟩⟩
    have lsc : Limbs [sc] := fun x hx => by simp at hx; omega
    have vsc : val [sc] = sc := by simp [val]
    refine Ret.at (impl_natMul_c (h.ext x2) (one hn2) ha.1 lsc (by omega) (by omega)) ?_
    rintro v w3 ⟨up, un, uc, hv, ou, y3⟩
    subst hv
    refine ⟨_, _, _, rfl, fun r2 w4 hn4 => ?_⟩
    have x4 := (x2.trans y3).trans hn4.ext
    refine Ret.at (impl_natMul_c (k.ext x4) (one hn4) hb.1 lsc (by omega) (by omega)) ?_
    rintro v w5 ⟨vp, vn, vc, hv, ov, y5⟩
    subst hv
    refine ⟨_, _, _, rfl, ?_⟩
    rw [vsc] at ou ov
    have x5 := x4.trans y5
    have l2 := x2.le; have l3 := y3.le; have l4 := hn4.ext.le; have l5 := y5.le; have l1 := y1.le
    -- the values
    have U0 : 0 <= val a * sc := Int.mul_nonneg va0 (by omega)
    have V0 : val b <= val b * sc := by
      have := Int.mul_le_mul_of_nonneg_left S0 (Int.le_of_lt vb0); omega
    have aL := val_lt ha.1
    rw [hla] at aL
    have hpn := pow_pos9 n
    have U1 : val a * sc < 1000000000 ^ (n + 1) := by
      rw [Int.pow_succ]
      have h1 : val a * sc <= 1000000000 ^ n * sc := Int.mul_le_mul_of_nonneg_right (Int.le_of_lt aL) (by omega)
      have h2 : 1000000000 ^ n * sc < 1000000000 ^ n * 1000000000 := Int.mul_lt_mul_of_pos_left (by omega) hpn
      omega
    have hpt := pow_pos9 t
    have bt := val_top hlb
    have bb := take_bounds (m := t) hb.1 (by omega)
    have Vlow : 1000000000 ^ t * sc <= val b * sc := by
      refine Int.mul_le_mul_of_nonneg_right ?_ (by omega)
      have := Int.mul_le_mul_of_nonneg_left hT (Int.le_of_lt hpt)
      omega
    have Vlow1 : 1000000000 ^ t <= val b * sc := by
      have := Int.mul_le_mul_of_nonneg_left S0 (Int.le_of_lt hpt); omega
    have Vhi : val b * sc < 1000000000 ^ (t + 1) := by
      have h1 : val b * sc < (1000000000 ^ t * (b.getD t 0 + 1)) * sc := by
        refine Int.mul_lt_mul_of_pos_right ?_ (by omega)
        rw [Int.mul_add]; omega
      have h2 : (1000000000 ^ t * (b.getD t 0 + 1)) * sc = 1000000000 ^ t * (sc * (b.getD t 0 + 1)) := by rw [Int.mul_assoc, Int.mul_comm sc]
      have h3 : 1000000000 ^ t * (sc * (b.getD t 0 + 1)) <= 1000000000 ^ t * 1000000000 := Int.mul_le_mul_of_nonneg_left S2 (Int.le_of_lt hpt)
      rw [Int.pow_succ]; omega
    have hvlen : (digs (val b * sc).toNat).length = t + 1 := by
      have h1 := digs_lenI (by omega) Vhi
      have h2 := digs_lenI' (by omega) Vlow1
      omega
    have hvn : vn = t + 1 := by
      have := ov.len
      simp only [List.length_map] at this
      omega
    have hvval := val_digsI (show 0 <= val b * sc by omega)
    have hvtop := canon_top (digs_canon (val b * sc).toNat) hvlen
    have hvlim := digs_limbs (val b * sc).toNat
    have hUval := val_digsI U0
    have hUlen := digs_lenI U0 U1
    generalize hVl : digs (val b * sc).toNat = vs at ov hvlen hvval hvtop hvlim
    generalize hUl : digs (val a * sc).toNat = us at ou hUval hUlen
    have hUlim : Limbs us := by rw [<- hUl]; exact digs_limbs _
    have hun : un = us.length := by have := ou.len; simp only [List.length_map] at this; omega
    subst hvn
    have dis0 : ∀ z, up.map (·.block) = some z -> vp.map (·.block) ≠ some z := fun z hz hz2 => by
      have := (World.ownsRow.lt ou z (by rw [<- hz]; cases up <;> rfl)).2
      have := (World.ownsRow.lt ov z (by rw [<- hz2]; cases vp <;> rfl)).1
      omega
    have ou5 := ((ou.ext hn4.ext).ext y5).mono (base' := w.heap.size) (by omega)
    have ov5 := ov.mono (base' := w.heap.size) (by omega)
    refine ⟨fun P' N' C' wr => ∃ s, N' = us.length + s /\ N' <= n + 1 /\ Own wr w.heap.size T_int 1 P' N' C' ((us ++ List.replicate s 0).map (Value.int .i64)) /\ Own wr w.heap.size T_int 1 vp (t + 1) vc (vs.map (Value.int .i64)) /\ Ext w wr /\ (∀ z, P'.map (·.block) = some z -> vp.map (·.block) ≠ some z), fun _ N' _ _ => n + 1 - N',
      ⟨0, by omega, by omega, by simpa using ou5, ov5, x5, dis0⟩, ?_⟩
    intro junk wr up1 un1 uc1 ⟨s, hs, hsn, ou1, ov1, x6, dis1⟩
    have l6 := x6.le
    refine ifD (fun hgrow => ?_) (fun hfull => ?_)
    · intro r3 w7 hn7
      have e7 := hn7.r_eq
      obtain ⟨p', c', w8, ap, o8, ch8, d8⟩ := (ou1.ext hn7.ext).push1 (P := P) sliceT_int (by have := hn7.ext.le; omega) hn7.blk rfl (by simp [Value.oneCell']) (by omega) (by omega)
      have upl : ∀ z, up1.map (·.block) = some z -> w.heap.size <= z /\ z < wr.heap.size := fun z hz => World.ownsRow.lt ou1 z (by rw [<- hz]; cases up1 <;> rfl)
      have vpl : ∀ z, vp.map (·.block) = some z -> w.heap.size <= z /\ z < wr.heap.size := fun z hz => World.ownsRow.lt ov1 z (by rw [<- hz]; cases vp <;> rfl)
      refine ⟨p', _, c', w8, ap, ⟨s + 1, by omega, by omega, ?_, (ov1.ext hn7.ext).chg ch8 (fun z hz hm => dis1 z (opt_mem hm) hz), (x6.trans hn7.ext).chg ch8 (fun z hz => (upl z (opt_mem hz)).1), fun z hz hz2 => ?_⟩, ?_⟩
      · rw [List.replicate_succ', <- List.append_assoc]
        simpa using o8
      · rcases d8 with d8 | d8
        · exact dis1 z (d8 ▸ hz) hz2
        · have := d8 z hz; have := (vpl z hz2).2; have := hn7.size; omega
      · show n + 1 - (un1 + 1) < n + 1 - un1
        omega
    · have hN : un1 = n + 1 := by omega
      have hi66 : ((un1 : Nat) : Int) - ((t + 1 : Nat) : Int) = ((n - t : Nat) : Int) := by omega
      rw [hi66]
      refine exW ⟨by omega, by omega⟩ ⟨⟨by omega, by omega, by omega⟩, ?_⟩
      rw [Int.toNat_natCast]
      intro r4 w9 hn9
      have e9 := hn9.r_eq; have s9 := hn9.size
      have hb9 := hn9.blk
      rw [zeroRow_int, Nat.mul_one] at hb9
      obtain ⟨bu, ys, rfl, hbu, hblk, hyl, hnc, hcm, hyt⟩ := ou1.blk (by omega)
      have hbul := hblk.lt
      generalize hos : us ++ List.replicate s 0 = o0 at ou1 hyt
      have ho0 : o0.length = n + 1 := by rw [<- hos]; simp; omega
      have hov : val o0 = val a * sc := by rw [<- hos, val_append, val_zeros', Int.mul_zero, Int.add_zero, hUval]
      have hol0 : Limbs o0 := by rw [<- hos]; exact Limbs.append.2 ⟨hUlim, Limbs.zeros s⟩
      have hys : ys = o0.map (Value.int .i64) ++ ys.drop (un1 * 1) := by rw [<- hyt, List.take_append_drop]
      generalize hrs : ys.drop (un1 * 1) = rs at hys
      rw [hys] at hblk
      have vpne : ∀ z, vp.map (·.block) = some z -> z ≠ bu := fun z hz e => dis1 bu rfl (by rw [hz, e])
      have vpl : ∀ z, vp.map (·.block) = some z -> z < wr.heap.size := fun z hz => (World.ownsRow.lt ov1 z (by rw [<- hz]; cases vp <;> rfl)).2
      refine exW ⟨by omega, by omega⟩ ⟨fun i wr2 => ∃ (j : Nat) (o ql : List Int), i = (j : Int) - 1 /\ j <= n - t /\ o.length = n + 1 /\ ql.length = n - t /\ Blk wr2 bu T_int (o.map (Value.int .i64) ++ rs) /\ Blk wr2 r4 T_int (ql.map (Value.int .i64)) /\ IntsR wr2 vp (t + 1) vc vs /\ Ext w wr2 /\ Limbs o /\ Limbs ql /\ (∀ z, z < j -> ql.getD z 0 = 0) /\ val o + val ql * (val b * sc) = val a * sc /\ val o < 1000000000 ^ j * (val b * sc), fun i _ => (i + 1).toNat,
        ⟨n - t, o0, List.replicate (n - t) 0, rfl, by omega, ho0, by simp, hblk.ext hn9.ext, by simpa using hb9, (ov1.ints).ext hn9.ext, x6.trans hn9.ext, hol0, Limbs.zeros _, fun z hz => by simp [List.getD_eq_getElem?_getD, hz], by rw [val_zeros', Int.zero_mul]; omega, ?_⟩, ?_⟩
      · rw [hov]
        have h1 : val a * sc < 1000000000 ^ n * sc := Int.mul_lt_mul_of_pos_right aL (by omega)
        have h2 : (1000000000 : Int) ^ (n - t) * (1000000000 ^ t * sc) <= 1000000000 ^ (n - t) * (val b * sc) := Int.mul_le_mul_of_nonneg_left Vlow (Int.le_of_lt (pow_pos9 _))
        rw [<- Int.mul_assoc, <- Int.pow_add, show n - t + t = n by omega] at h2
        omega
      intro junk2 wr2 i ⟨j, o, ql, hi, hj, hol, hqll, hbu2, hbq, kv, x10, hlo, hlq, hqz, hval, hlt⟩
      subst hi
      have l10 := x10.le
      refine ifD (fun hpos => ?_) (fun hend => ?_)
      · obtain ⟨f, rfl⟩ : ∃ f, j = f + 1 := ⟨j - 1, by omega⟩
        have ef : ((f + 1 : Nat) : Int) - 1 = (f : Int) := by omega
        rw [ef]
        have e81 : (f : Int) + ((t + 1 : Nat) : Int) + 1 = ((f + (t + 1) + 1 : Nat) : Int) := by omega
        refine exW ⟨by omega, by omega⟩ (exW ⟨by omega, by omega⟩ ?_)
        rw [e81]
        simp only [Int.toNat_natCast]
        have hsub : Sx.sub (some ⟨bu, 0, none⟩) f uc1 1 = some ⟨bu, f, none⟩ := by
          unfold Sx.sub
          rw [if_neg (by omega)]
          simp [Addr.add]
          omega
        rw [hsub, show f + (t + 1) + 1 - f = t + 1 + 1 by omega]
        refine ⟨⟨by omega, by omega⟩, ⟨by omega, by omega⟩, ?_⟩
        -- the window
        have esplit : o = o.take f ++ ((o.drop f).take (t + 1 + 1) ++ (o.drop f).drop (t + 1 + 1)) := by rw [List.take_append_drop, List.take_append_drop]
        have lA : (o.take f).length = f := by rw [List.length_take]; omega
        have lU : ((o.drop f).take (t + 1 + 1)).length = t + 1 + 1 := by rw [List.length_take, List.length_drop]; omega
        have hlA : Limbs (o.take f) := hlo.take f
        have hlD : Limbs (o.drop f) := fun x hx => hlo x (List.mem_of_mem_drop hx)
        have hlU := hlD.take (t + 1 + 1)
        have hlC : Limbs ((o.drop f).drop (t + 1 + 1)) := fun x hx => hlD x (List.mem_of_mem_drop hx)
        generalize o.take f = A at esplit lA hlA
        generalize (o.drop f).take (t + 1 + 1) = U at esplit lU hlU
        generalize (o.drop f).drop (t + 1 + 1) = C at esplit hlC
        subst esplit
        have hA0 := val_nonneg hlA; have hA1 := val_lt hlA; have hC0 := val_nonneg hlC; have hU0 := val_nonneg hlU
        rw [lA] at hA1
        rw [val_append, val_append, lA, lU, Int.mul_add, <- Int.mul_assoc, <- Int.pow_add] at hval hlt
        have hpf := pow_pos9 f
        have hCz : val C = 0 := by
          rcases Int.lt_or_le 0 (val C) with g | g
          · exfalso
            have g1 := Int.mul_le_mul_of_nonneg_left (show 1 <= val C by omega) (Int.le_of_lt (pow_pos9 (f + (t + 1 + 1))))
            have g2 := Int.mul_nonneg (Int.le_of_lt hpf) hU0
            have g3 : (1000000000 : Int) ^ (f + 1) * (val b * sc) < 1000000000 ^ (f + 1) * 1000000000 ^ (t + 1) := Int.mul_lt_mul_of_pos_left Vhi (pow_pos9 _)
            rw [<- Int.pow_add, show f + 1 + (t + 1) = f + (t + 1 + 1) by omega] at g3
            omega
          · omega
        rw [hCz, Int.mul_zero, Int.add_zero] at hval hlt
        have hUD : val U < 1000000000 * (val b * sc) := by
          have g1 : (1000000000 : Int) ^ f * val U < 1000000000 ^ f * (1000000000 * (val b * sc)) := by
            have e : (1000000000 : Int) ^ f * (1000000000 * (val b * sc)) = 1000000000 ^ (f + 1) * (val b * sc) := by rw [Int.pow_succ, Int.mul_assoc]
            rw [e]; omega
          exact Int.lt_of_mul_lt_mul_left g1 (Int.le_of_lt hpf)
        have hbw : Blk wr2 bu T_int (A.map (Value.int .i64) ++ U.map (Value.int .i64) ++ (C.map (Value.int .i64) ++ rs)) := by
          have := hbu2
          rw [List.map_append, List.map_append] at this
          simpa only [List.append_assoc] using this
        refine Ret.at (impl_divStep_c hbw (by rw [List.length_map, lA]) lU kv vpne hlU hvlim (by simpa using hvtop) (by omega) (by omega) (by rw [hvval]; exact hUD)) ?_
        rintro v w11 ⟨x, u', hv, x0, x1, hl', hb', ch', hlu', hvu', hu0', hu1'⟩
        subst hv
        rw [hvval] at hvu' hu1'
        have hbq' := hbq.chg ch' (by simp; omega)
        have kv' := kv.chg ch' (fun z hz hm => vpne z hz (by simpa using hm))
        obtain ⟨w12, st, hbq12, ch12, sz12⟩ := blk_set hbq' (i := (f : Int)) (by omega) (by omega) x
        simp only [Int.toNat_natCast] at st hbq12
        have hbu12 := hb'.chg ch12 (by simp; omega)
        refine ⟨x, rfl, ⟨by omega, by omega⟩, w12, st, exW ⟨by omega, by omega⟩ ⟨⟨f, A ++ (u' ++ C), ql.set f x, by omega, by omega, ?_, by simpa using hqll, ?_, hbq12, kv'.chg ch12 (fun z hz hm => by have := vpl z hz; simp at hm; omega), (x10.chg ch' (by simp; omega)).chg ch12 (by simp; omega), ?_, hlq.set ⟨x0, x1⟩, fun z hz => by rw [getD_set_ne _ (by omega)]; exact hqz z (by omega), ?_, ?_⟩, ?_⟩⟩
        · simp only [List.length_append] at hol ⊢; omega
        · simpa only [List.map_append, List.append_assoc] using hbu12
        · exact Limbs.append.2 ⟨hlA, Limbs.append.2 ⟨hlu', hlC⟩⟩
        · rw [val_append, val_append, lA, hCz, Int.mul_zero, Int.add_zero, val_set _ _ (by omega), hqz f (by omega), Int.sub_zero, hvu', Int.mul_sub, Int.add_mul]
          have : (1000000000 : Int) ^ f * x * (val b * sc) = 1000000000 ^ f * (x * (val b * sc)) := Int.mul_assoc _ _ _
          omega
        · rw [val_append, val_append, lA, hCz, Int.mul_zero, Int.add_zero]
          have g1 : (1000000000 : Int) ^ f * (val u' + 1) <= 1000000000 ^ f * (val b * sc) := Int.mul_le_mul_of_nonneg_left (by omega) (Int.le_of_lt hpf)
          rw [Int.mul_add] at g1
          omega
        · show ((f : Int) - 1 + 1).toNat < ((f : Int) + 1).toNat
          omega
      · have hj0 : j = 0 := by omega
        subst hj0
        rw [show (1000000000 : Int) ^ 0 = 1 from rfl, Int.one_mul] at hlt
        have hrd : IntsR wr2 (some ⟨bu, 0, none⟩) un1 uc1 o := by
          refine ⟨by omega, hnc, by simp only [maxLen] at hcm; omega, fun _ => ⟨bu, 0, rfl, ?_⟩⟩
          have := hbu2.seg.take o.length
          rwa [List.take_left' (by simp)] at this
        refine Ret.at (impl_trim_c hrd) ?_
        rintro v w11 ⟨hv, hw, hr⟩
        subst hv; subst hw
        refine ⟨_, _, _, rfl, ?_⟩
        rw [trimL_eq hlo] at hr
        have hlen2 : (digs (val o).toNat).length <= n + 1 := by
          have := trimL_len o
          rw [trimL_eq hlo] at this; omega
        have ho0' := val_nonneg hlo
        rw [trimL_eq hlo]
        refine Ret.at (impl_natSmall_c hr (digs_limbs _) ⟨by omega, by omega⟩ (by omega)) ?_
        rintro v w12 ⟨p2, n2, c2, hv, o2, y12⟩
        subst hv
        rw [val_digsI ho0'] at o2
        refine ⟨_, _, _, _, rfl, ?_⟩
        have hq0 := val_nonneg hlq
        have hown : Own w12 w.heap.size T_int 1 (some ⟨r4, 0, none⟩) (n - t) (n - t) (ql.map (Value.int .i64)) := Own.of_blk (hbq.ext y12) (by omega) (by simp [hqll]) (by simp only [maxLen]; omega)
        refine Ret.at (impl_trim_c hown.ints) ?_
        rintro v w13 ⟨hv, hw, hr13⟩
        subst hv; subst hw
        -- the quotient and the rest
        have hval' : (val a - val ql * val b) * sc = val o := by
          rw [Int.sub_mul, Int.mul_assoc]; omega
        have hR0 : 0 <= val a - val ql * val b := by
          rcases Int.lt_or_le (val a - val ql * val b) 0 with g | g
          · have := Int.mul_le_mul_of_nonneg_right (show val a - val ql * val b <= -1 by omega) (show 0 <= sc by omega)
            omega
          · exact g
        have hR1 : val a - val ql * val b < val b := Int.lt_of_mul_lt_mul_right (a := sc) (by omega) (by omega)
        have hd : val a / val b = val ql := by
          have : val a = (val a - val ql * val b) + val b * val ql := by rw [Int.mul_comm (val b)]; omega
          rw [this, Int.add_mul_ediv_left _ _ (by omega), Int.ediv_eq_zero_of_lt hR0 hR1, Int.zero_add]
        have hr' : val a % val b = val a - val ql * val b := by
          have := Int.mul_ediv_add_emod (val a) (val b)
          rw [hd, Int.mul_comm] at this
          omega
        have hos2 : val o / sc = val a - val ql * val b := by rw [<- hval', Int.mul_ediv_cancel _ (by omega)]
        rw [hos2] at o2
        refine ⟨_, _, _, rfl, _, _, _, _, _, _, rfl, ?_, ?_, fun z hz hz2 => ?_, x10.trans y12⟩
        · rw [hd, <- trimL_eq hlq]
          have hle := trimL_len ql
          have := hown.sub (m := (trimL ql).length) (by omega)
          rwa [<- trimL_prefix] at this
        · rw [hr']
          exact o2.mono l10
        · have := (World.ownsRow.lt o2 z (by rw [<- hz2]; cases p2 <;> rfl)).1
          have := hbq.lt
          simp at hz
          omega
end Go.Proofs.YtbgokfhcgcoipaaGreat
namespace Go.Proofs.YtbgokfhcgcoipaaGreat
open Go Go.Proofs.YtbgokfhcgcoipaaGreat.Sx
theorem spec_l03Small_c {w : World} {p : Option Addr} {n c : Nat} {a : List Int} {d : Int} (h : IntsR w p n c a) (ha : Limbs a) (hd : 0 < d /\ d < 1000000000) (hn : n <= 10000000) :
    Ret P n_spec_l03Small [.slice p n c, .int .i64 d] w fun v w' => ∃ p' n' c', v = .tuple #[.slice p' n' c', .int .i64 (val a % d)] /\ Own w' w.heap.size T_int 1 p' n' c' ((digs (val a / d).toNat).map (Value.int .i64)) /\ Ext w w' := by
  refine spec_l03Small_ret ?_
  unfold spec_l03Small
  have hla := h.1
  refine ⟨⟨by omega, by omega, by omega⟩, fun r w1 hn1 => exW ⟨by omega, by omega⟩ ?_⟩
  have hre := hn1.r_eq
  have hb1 := hn1.blk
  rw [zeroRow_int, Nat.mul_one] at hb1
  refine ⟨fun rest i wr => ∃ (s : Nat) (o : List Int), i = (s : Int) - 1 /\ s <= n /\ o.length = n /\ Blk wr r T_int (o.map (Value.int .i64)) /\ Ext w wr /\ Limbs o /\ 0 <= rest /\ rest < d /\ val (a.drop s) = d * val (o.drop s) + rest, fun _ i _ => (i + 1).toNat,
    ⟨n, List.replicate n 0, rfl, by omega, by simp, by simpa using hb1, hn1.ext, fun x hx => by simp at hx; omega, by omega, by omega, by rw [List.drop_of_length_le (by omega), List.drop_of_length_le (by simp)]; simp [val]⟩, ?_⟩
  intro junk wr rest i ⟨s, o, hi, hsn, hol, hblk, hx, hlo, hr0, hr1, hv⟩
  subst hi
  refine ifD (fun hlt => ?_) (fun hge => ?_)
  · obtain ⟨t, rfl⟩ : ∃ t, s = t + 1 := ⟨s - 1, by omega⟩
    have A := ha.getD t
    have e1 : (((t + 1 : Nat) : Int) - 1).toNat = t := by omega
    obtain ⟨ad, rfl, hl⟩ := ints_at (h.ext hx) (i := ((t + 1 : Nat) : Int) - 1) (by omega) (by omega)
    rw [e1] at hl ⊢
    have T1 : rest * 1000000000 + a.getD t 0 < 1000000000 * d := by
      have : rest * 1000000000 <= (d - 1) * 1000000000 := Int.mul_le_mul_of_nonneg_right (by omega) (by omega)
      omega
    have T0 : 0 <= rest * 1000000000 + a.getD t 0 := by omega
    have Y0 : 0 <= (rest * 1000000000 + a.getD t 0) / d := Int.ediv_nonneg T0 (by omega)
    have Y1 : (rest * 1000000000 + a.getD t 0) / d < 1000000000 := Int.ediv_lt_of_lt_mul (by omega) T1
    have Z0 := Int.emod_nonneg (rest * 1000000000 + a.getD t 0) (show d ≠ 0 by omega)
    have Z1 := Int.emod_lt_of_pos (rest * 1000000000 + a.getD t 0) hd.1
    have Q := Int.mul_ediv_add_emod (rest * 1000000000 + a.getD t 0) d
    refine exW ⟨by omega, by omega⟩ ⟨⟨by omega, by omega⟩, _, hl, exW ⟨by omega, by omega⟩ ⟨by omega, ?_⟩⟩
    rw [Int.tdiv_eq_ediv_of_nonneg T0, Int.tmod_eq_emod_of_nonneg T0]
    obtain ⟨w3, st, hb3, ch3, sz3⟩ := blk_set hblk (i := (t : Int)) (by omega) (by omega) ((rest * 1000000000 + a.getD t 0) / d)
    simp only [Int.toNat_natCast] at st hb3
    refine exW ⟨by omega, by omega⟩ ⟨⟨by omega, by omega⟩, w3, st, by omega, _, rfl, exW ⟨by omega, by omega⟩ ⟨⟨t, _, by omega, by omega, by simpa using hol, hb3, hx.chg ch3 (by simp; omega), hlo.set ⟨Y0, Y1⟩, Z0, Z1, ?_⟩, ?_⟩⟩
    · have ea : a.drop t = a.getD t 0 :: a.drop (t + 1) := by
        rw [List.drop_eq_getElem_cons (by omega), List.getD_eq_getElem?_getD, List.getElem?_eq_getElem (by omega)]; rfl
      have eo : (o.set t ((rest * 1000000000 + a.getD t 0) / d)).drop t = (rest * 1000000000 + a.getD t 0) / d :: o.drop (t + 1) := by
        rw [List.drop_eq_getElem_cons (by simp; omega), List.getElem_set_self, List.drop_set_of_lt (by omega)]
      rw [ea, eo, val, val, hv, Int.mul_add d]
      have : d * (1000000000 * val (o.drop (t + 1))) = 1000000000 * (d * val (o.drop (t + 1))) := by rw [Int.mul_left_comm]
      omega
    · show (((t + 1 : Nat) : Int) - 1 - 1 + 1).toNat < (((t + 1 : Nat) : Int) - 1 + 1).toNat
      omega
  · have hs0 : s = 0 := by omega
    subst hs0
    simp only [List.drop_zero] at hv
    have hown : Own wr w.heap.size T_int 1 (some ⟨r, 0, none⟩) n n (o.map (Value.int .i64)) := Own.of_blk hblk (by omega) (by simp [hol]) (by simp only [maxLen]; omega)
    refine Ret.at (spec_l02Trim_c hown.ints) ?_
    rintro v w4 ⟨hv4, hw4, hr4⟩
    subst hv4; subst hw4
    have e1 : val a / d = val o := by rw [hv, Int.mul_comm, Int.add_comm, Int.add_mul_ediv_right _ _ (by omega), Int.ediv_eq_zero_of_lt hr0 hr1, Int.zero_add]
    have e2 : val a % d = rest := by rw [hv, Int.mul_comm, Int.add_comm, Int.add_mul_emod_self_right, Int.emod_eq_of_lt hr0 hr1]
    refine ⟨_, _, _, rfl, _, _, _, by rw [e2], ?_, hx⟩
    rw [e1, <- trimL_eq hlo]
    have hle := trimL_len o
    have := hown.sub (m := (trimL o).length) (by omega)
    rwa [<- trimL_prefix] at this
theorem spec_l02Sub_o {w : World} {p q : Option Addr} {n c m d : Nat} {a b : List Int} (h : IntsR w p n c a) (k : IntsR w q m d b) (ha : Limbs a) (hb : Limbs b) (hn : n <= 10000000) (hbl : m <= n) (hab : val b <= val a) :
    Ret P n_spec_l02Sub [.slice p n c, .slice q m d] w fun v w' => ∃ p' n' c', v = .slice p' n' c' /\ Own w' w.heap.size T_int 1 p' n' c' ((digs (val a - val b).toNat).map (Value.int .i64)) /\ Ext w w' := by
  refine spec_l02Sub_ret ?_
  unfold spec_l02Sub
  have hla := h.1; have hlb := k.1
  intro r w1 hn1
  let Inv : Option Addr -> Nat -> Nat -> Int -> Int -> World -> Prop := fun p on c less i wr => ∃ (o : List Int), i = on /\ on <= n /\ Own wr w.heap.size T_int 1 p on c (o.map (Value.int .i64)) /\ Ext w wr /\ Limbs o /\ o.length = on /\ 0 <= less /\ less <= 1 /\ val o - 1000000000 ^ on * less = val (a.take on) - val (b.take on)
  refine ⟨Inv, fun _ _ _ _ i _ => n - i.toNat, ⟨[], rfl, by omega, Own.fresh hn1, hn1.ext, Limbs.nil, rfl, by omega, by omega, by simp [val]⟩, ?_⟩
  intro junk wr op j oc less i ⟨o, hi, hjn, hown, hx, hlo, hol, hc0, hc1, hv⟩
  subst hi
  have A := ha.getD j; have B := hb.getD j
  have bb : (j : Int) < m ∨ b.getD j 0 = 0 := by
    by_cases e : j < m
    · left; omega
    · right; exact getD_beyond (by omega)
  have J1 : ∀ l' u, (j : Int) < n -> u = a.getD j 0 - less - b.getD j 0 + 1000000000 * l' -> 0 <= u -> u < 1000000000 -> 0 <= l' -> l' <= 1 ->
      spec_l02Sub_j1 wr Inv (fun _ _ _ _ i _ => n - i.toNat) op j oc less j l' u wr fun v w' => ∃ p' n' c', v = .slice p' n' c' /\ Own w' w.heap.size T_int 1 p' n' c' ((digs (val a - val b).toNat).map (Value.int .i64)) /\ Ext w w' := by
    intro l' u hlt hu h0 h1 h2 h3
    unfold spec_l02Sub_j1
    intro r1 w2 hn2
    obtain ⟨p', c', w3, g1, g2, g3⟩ := Own.push hown hx.le hn2 (by omega)
    refine ⟨_, _, _, _, g1, exW ⟨by omega, by omega⟩ ⟨⟨o ++ [u], by omega, by omega, g2, g3 w hx (Nat.le_refl _), hlo.snoc ⟨h0, h1⟩, by simp [hol], h2, h3, sub_step hol hv rfl hu⟩, ?_⟩⟩
    show n - ((j : Int) + 1).toNat < n - (j : Int).toNat
    omega
  have J0 : ∀ t, (j : Int) < n -> t = a.getD j 0 - less - b.getD j 0 ->
      spec_l02Sub_j0 wr Inv (fun _ _ _ _ i _ => n - i.toNat) op j oc less j t wr fun v w' => ∃ p' n' c', v = .slice p' n' c' /\ Own w' w.heap.size T_int 1 p' n' c' ((digs (val a - val b).toNat).map (Value.int .i64)) /\ Ext w w' := by
    intro t hlt ht
    unfold spec_l02Sub_j0
    exact ifD (fun hneg => exW ⟨by omega, by omega⟩ (J1 1 _ hlt (by omega) (by omega) (by omega) (by omega) (by omega))) (fun hpos => J1 0 _ hlt (by omega) (by omega) (by omega) (by omega) (by omega))
  refine ifD (fun hlt => ?_) (fun hge => ?_)
  · obtain ⟨ad, rfl, hl⟩ := ints_at (h.ext hx) (i := (j : Int)) (by omega) hlt
    refine ⟨⟨by omega, by omega⟩, _, hl, exW ⟨by simp only [Int.toNat_natCast]; omega, by simp only [Int.toNat_natCast]; omega⟩ (ifD (fun hlm => ?_) (fun hge => J0 _ hlt (by simp only [Int.toNat_natCast]; rw [bb.resolve_left hge]; omega)))⟩
    obtain ⟨ad2, rfl, hl2⟩ := ints_at (k.ext hx) (i := (j : Int)) (by omega) hlm
    exact ⟨⟨by omega, by omega⟩, _, hl2, exW ⟨by simp only [Int.toNat_natCast]; omega, by simp only [Int.toNat_natCast]; omega⟩ (J0 _ hlt (by simp only [Int.toNat_natCast]))⟩
  · have hjn' : j = n := by omega
    subst hjn'
    rw [<- hla] at hv
    have hval := sub_end hlo (by omega) (by omega) hab hc0 hc1 hv
    refine Ret.at (spec_l02Trim_c hown.ints) ?_
    rintro v w4 ⟨hv4, hw4, hr4⟩
    subst hv4; subst hw4
    refine ⟨_, _, _, rfl, _, _, _, rfl, ?_, hx⟩
    have e := trimL_eq hlo
    rw [hval] at e
    rw [<- e]
    have hle := trimL_len o
    have := hown.sub (m := (trimL o).length) (by omega)
    rwa [<- trimL_prefix] at this
theorem spec_l03Digit_c {w : World} {p q : Option Addr} {n c m d : Nat} {a b : List Int} (h : IntsR w p n c a) (k : IntsR w q m d b) (ha : Canon a) (hb : Canon b) (hb0 : 0 < m) (hm : m <= 100000) (hlt : val a < 1000000000 * val b) :
    Ret P n_spec_l03Digit [.slice p n c, .slice q m d] w fun v w' => v = .int .i64 (val a / val b) /\ Ext w w' := by
  refine spec_l03Digit_ret ?_
  unfold spec_l03Digit
  have hla := h.1; have hlb := k.1
  have va0 := val_nonneg ha.1
  have vb0 : 0 < val b := canon_pos hb (by intro e; rw [e] at hlb; simp at hlb; omega)
  refine ⟨fun lo hi wr => Ext w wr /\ 0 <= lo /\ lo <= hi /\ hi <= 999999999 /\ lo * val b <= val a /\ val a < (hi + 1) * val b, fun lo hi _ => (hi - lo).toNat, ⟨Ext.refl _, by omega, by omega, by omega, by omega, by omega⟩, ?_⟩
  intro junk wr lo hi ⟨hx, h0, h1, h2, hl, hh⟩
  refine ifD (fun hmore => ?_) (fun hend => ?_)
  · refine exW ⟨by omega, by omega⟩ (exW ⟨by omega, by omega⟩ ⟨by decide, ?_⟩)
    rw [Int.tdiv_eq_ediv_of_nonneg (by omega)]
    refine exW ⟨by omega, by omega⟩ ?_
    have Q1 : lo < (lo + hi + 1) / 2 := by omega
    have Q2 : (lo + hi + 1) / 2 <= hi := by omega
    generalize (lo + hi + 1) / 2 = z at Q1 Q2
    refine Ret.at (spec_NatOf_c (show 0 <= z by omega) (by omega)) ?_
    rintro v w1 ⟨p1, n1, c1, hv, o1, y1⟩
    subst hv
    refine ⟨_, _, _, rfl, ?_⟩
    have ln1 : n1 <= 1 := by
      have e := o1.len
      have := digs_lenI (z := z) (k := 1) (by omega) (by rw [show (1000000000 : Int) ^ 1 = 1000000000 from rfl]; omega)
      simp only [List.length_map] at e
      omega
    refine Ret.at (spec_l02Mul_c (k.ext (hx.trans y1)) o1.ints hb.1 (digs_limbs _) (by omega) (by omega)) ?_
    rintro v w2 ⟨p2, n2, c2, hv, o2, y2⟩
    subst hv
    refine ⟨_, _, _, rfl, ?_⟩
    rw [val_digsI (by omega)] at o2
    have Z0 : 0 <= val b * z := Int.mul_nonneg (by omega) (by omega)
    refine Ret.at (spec_l02Cmp_c o2.ints (h.ext (hx.trans (y1.trans y2)))) ?_
    rintro v w3 ⟨hv, y3⟩
    subst hv
    have hc := cmpL_val (digs_canon (val b * z).toNat) ha
    rw [val_digsI Z0] at hc
    have ezb := Int.mul_comm (val b) z
    refine ⟨_, rfl, ifD (fun hle => ⟨⟨hx.trans (y1.trans (y2.trans y3)), by omega, by omega, by omega, by rcases hc with h | h | h <;> omega, hh⟩, ?_⟩) (fun hgt => exW ⟨by omega, by omega⟩ ⟨⟨hx.trans (y1.trans (y2.trans y3)), by omega, by omega, by omega, hl, ?_⟩, ?_⟩)⟩
    · show (hi - z).toNat < (hi - lo).toNat
      omega
    · rw [Int.sub_add_cancel]; rcases hc with h | h | h <;> omega
    · show (z - 1 - lo).toNat < (hi - lo).toNat
      omega
  · have : lo = hi := by omega
    subst this
    refine ⟨?_, hx⟩
    congr 1
    have e : val a = (val a - lo * val b) + val b * lo := by rw [Int.mul_comm (val b)]; omega
    rw [Int.add_mul, Int.one_mul] at hh
    rw [e, Int.add_mul_ediv_left _ _ (by omega), Int.ediv_eq_zero_of_lt (by omega) (by omega), Int.zero_add]
theorem spec_l03Div_o {w : World} {p q : Option Addr} {n c m d : Nat} {a b : List Int} (h : IntsR w p n c a) (k : IntsR w q m d b) (ha : Limbs a) (hb : Canon b) (hb0 : 0 < m) (hn : n <= 100000) (hm : m <= 100000) :
    Ret P n_spec_l03Div [.slice p n c, .slice q m d] w fun v w' => ∃ p1 n1 c1 p2 n2 c2, v = .tuple #[.slice p1 n1 c1, .slice p2 n2 c2] /\ Own w' w.heap.size T_int 1 p1 n1 c1 ((digs (val a / val b).toNat).map (Value.int .i64)) /\ IntsR w' p2 n2 c2 (digs (val a % val b).toNat) /\ Ext w w' := by
  refine spec_l03Div_ret ?_
  unfold spec_l03Div
  have hla := h.1; have hlb := k.1
  have va0 := val_nonneg ha
  have vb0 : 0 < val b := canon_pos hb (by intro e; rw [e] at hlb; simp at hlb; omega)
  refine ifD (fun hone => ?_) (fun hmore => ?_)
  · have hm1 : m = 1 := by omega
    subst hm1
    have hB := hb.1.getD 0
    have hT := canon_top (m := 0) hb (by omega)
    have ev : val b = b.getD 0 0 := by
      have := val_top (m := 0) hlb
      simpa [val] using this
    obtain ⟨ad, rfl, hl⟩ := ints_at k (i := 0) (by omega) (by omega)
    refine ⟨⟨by omega, by omega⟩, _, by simpa only [Int.toNat_zero] using hl, ?_⟩
    rw [ev]
    simp only [Int.toNat_zero]
    refine Ret.at (spec_l03Small_c h ha ⟨by omega, by omega⟩ (by omega)) ?_
    rintro v w2 ⟨p1, n1, c1, hv, o1, y2⟩
    subst hv
    have Z0 := Int.emod_nonneg (val a) (show b.getD 0 0 ≠ 0 by omega)
    have Z1 := Int.emod_lt_of_pos (val a) (show 0 < b.getD 0 0 by omega)
    refine ⟨_, _, _, _, rfl, ?_⟩
    refine Ret.at (spec_NatOf_c Z0 (by omega)) ?_
    rintro v w3 ⟨p2, n2, c2, hv, o2, y3⟩
    subst hv
    exact ⟨_, _, _, rfl, _, _, _, _, _, _, rfl, o1.ext y3, o2.ints, y2.trans y3⟩
  · refine ⟨⟨by omega, by omega, by omega⟩, ?_⟩
    intro r w1 hn1 r1 w2 hn2
    have e1 := hn1.r_eq; have e2 := hn2.r_eq; have s1 := hn1.size
    have x2 := hn1.ext.trans hn2.ext
    have hb1 := hn1.blk
    rw [zeroRow_int, Nat.mul_one] at hb1
    refine exW ⟨by omega, by omega⟩ ⟨fun rp rn rc i wr => ∃ (s : Nat) (o : List Int) (R : Int), i = (s : Int) - 1 /\ s <= n /\ o.length = n /\ Blk wr r T_int (o.map (Value.int .i64)) /\ Ext w wr /\ Limbs o /\ (∀ z, z < s -> o.getD z 0 = 0) /\ 0 <= R /\ R < val b /\ IntsR wr rp rn rc (digs R.toNat) /\ (∀ z, rp.map (·.block) = some z -> z ≠ r) /\ val (a.drop s) = val b * val (o.drop s) + R, fun _ _ _ i _ => (i + 1).toNat,
      ⟨n, List.replicate n 0, 0, rfl, by omega, by simp, by simpa using hb1.ext hn2.ext, x2, Limbs.zeros _, fun z hz => by simp [List.getD_eq_getElem?_getD, hz], by omega, by omega, ?_, ?_, by rw [List.drop_of_length_le (by omega), List.drop_of_length_le (by simp)]; simp [val]⟩, ?_⟩
    · simp only [Int.toNat_zero, digs_zero]; exact (Own.fresh hn2).ints
    · intro z hz; simp at hz; omega
    intro junk wr rp rn rc i ⟨s, o, R, hi, hsn, hol, hblk, hx, hlo, hoz, hR0, hR1, hR, hRb, hv⟩
    subst hi
    have lx := hx.le
    refine ifD (fun hpos => ?_) (fun hend => ?_)
    · obtain ⟨t, rfl⟩ : ∃ t, s = t + 1 := ⟨s - 1, by omega⟩
      have A := ha.getD t
      have ei : ((t + 1 : Nat) : Int) - 1 = (t : Int) := by omega
      rw [ei]
      obtain ⟨ad, rfl, hl⟩ := ints_at (h.ext hx) (i := (t : Int)) (by omega) (by omega)
      simp only [Int.toNat_natCast] at hl ⊢
      refine ⟨⟨by omega, by omega⟩, _, hl, ?_⟩
      intro r2 w3 hn3
      have e3 := hn3.r_eq
      have lR : (digs R.toNat).length <= m := by
        have hbl := val_lt hb.1
        rw [hlb] at hbl
        exact digs_lenI hR0 (by omega)
      have lR2 := hR.1
      obtain ⟨p4, c4, w4, ap, o4, x4⟩ := Own.appendI (w := w3) (base := wr.heap.size) (p := some ⟨r2, 0, none⟩) (n := 1) (c := 1) (zs := [a.getD t 0]) (Own.of_blk hn3.blk (by omega) rfl (by simp only [maxLen]; omega)) hn3.ext.le (hR.ext hn3.ext) (by omega)
      refine ⟨_, _, _, _, ap, ?_⟩
      have X4 : Ext wr w4 := x4 wr hn3.ext (Nat.le_refl _)
      have hlim4 : Limbs ([a.getD t 0] ++ digs R.toNat) := Limbs.append.2 ⟨Limbs.cons.2 ⟨A, Limbs.nil⟩, digs_limbs _⟩
      have hval4 : val ([a.getD t 0] ++ digs R.toNat) = a.getD t 0 + 1000000000 * R := by
        rw [List.singleton_append, val, val_digsI hR0]
      refine Ret.at (spec_l02Trim_c o4.ints) ?_
      rintro v w5 ⟨hv5, hw5, hr5⟩
      subst hv5; subst hw5
      rw [trimL_eq hlim4, hval4] at hr5 ⊢
      have hN0 : 0 <= a.getD t 0 + 1000000000 * R := by omega
      have hN1 : a.getD t 0 + 1000000000 * R < 1000000000 * val b := by omega
      generalize hN : a.getD t 0 + 1000000000 * R = N at hr5 hN0 hN1
      have hNv := val_digsI hN0
      have hNl : (digs N.toNat).length <= m + 1 := by
        refine digs_lenI hN0 ?_
        have hbl := val_lt hb.1
        rw [hlb] at hbl
        rw [Int.pow_succ]; omega
      refine ⟨_, _, _, rfl, ?_⟩
      have p4b : ∀ z, p4.map (·.block) = some z -> z ≠ r := fun z hz e => by
        have := (World.ownsRow.lt o4 z (by rw [<- hz]; cases p4 <;> rfl)).1
        have := hblk.lt
        omega
      refine Ret.at (spec_l02Cmp_c hr5 (k.ext (hx.trans X4))) ?_
      rintro v w6 ⟨hv6, y6⟩
      subst hv6
      have hc := cmpL_val (digs_canon N.toNat) hb
      rw [hNv] at hc
      have ea : a.drop t = a.getD t 0 :: a.drop (t + 1) := by
        rw [List.drop_eq_getElem_cons (by omega), List.getD_eq_getElem?_getD, List.getElem?_eq_getElem (by omega)]; rfl
      have eo : ∀ x : Int, (o.set t x).drop t = x :: o.drop (t + 1) := fun x => by
        rw [List.drop_eq_getElem_cons (by simp; omega), List.getElem_set_self, List.drop_set_of_lt (by omega)]
      have hstep : ∀ x : Int, val (a.drop t) = val b * val (x :: o.drop (t + 1)) + (N - val b * x) := fun x => by
        rw [ea, val, val, hv, Int.mul_add (val b)]
        have : val b * (1000000000 * val (o.drop (t + 1))) = 1000000000 * (val b * val (o.drop (t + 1))) := by rw [Int.mul_left_comm]
        omega
      have es : o.drop t = 0 :: o.drop (t + 1) := by
        have := hoz t (by omega)
        rw [List.drop_eq_getElem_cons (by omega)]
        rw [List.getD_eq_getElem?_getD, List.getElem?_eq_getElem (by omega)] at this
        simp only [Option.getD_some] at this
        rw [this]
      refine ⟨_, rfl, ifD (fun hless => ?_) (fun hnot => ?_)⟩
      · unfold spec_l03Div_j0
        have X6 := X4.trans y6
        refine exW ⟨by omega, by omega⟩ ⟨⟨t, o, N, by omega, by omega, hol, hblk.ext X6, hx.trans X6, hlo, fun z hz => hoz z (by omega), hN0, by rcases hc with h | h | h <;> omega, hr5.ext y6, p4b, ?_⟩, ?_⟩
        · rw [es, hstep 0, Int.mul_zero, Int.sub_zero]
        · show ((t : Int) - 1 + 1).toNat < ((t : Int) + 1).toNat
          omega
      · have X6 := X4.trans y6
        refine Ret.at (spec_l03Digit_c (hr5.ext y6) (k.ext (hx.trans X6)) (digs_canon _) hb hb0 hm (by rw [hNv]; exact hN1)) ?_
        rintro v w7 ⟨hv7, y7⟩
        subst hv7
        rw [hNv]
        have Q0 : 0 <= N / val b := Int.ediv_nonneg hN0 (by omega)
        have Q1 : N / val b < 1000000000 := Int.ediv_lt_of_lt_mul vb0 (by omega)
        have QE := Int.mul_ediv_add_emod N (val b)
        have QM0 := Int.emod_nonneg N (show val b ≠ 0 by omega)
        have QM1 := Int.emod_lt_of_pos N vb0
        generalize N / val b = x at Q0 Q1 QE
        have X7 := X6.trans y7
        have hblk7 := hblk.ext X7
        obtain ⟨w8, st, hb8, ch8, sz8⟩ := blk_set hblk7 (i := (t : Int)) (by omega) (by omega) x
        simp only [Int.toNat_natCast] at st hb8
        have x8 : Ext w w8 := (hx.trans X7).chg ch8 (by simp; omega)
        refine ⟨_, rfl, ⟨by omega, by omega⟩, w8, st, ?_⟩
        refine Ret.at (spec_NatOf_c Q0 (by omega)) ?_
        rintro v w9 ⟨p9, n9, c9, hv, o9, y9⟩
        subst hv
        refine ⟨_, _, _, rfl, ?_⟩
        have ln9 : n9 <= 1 := by
          have e := o9.len
          have := digs_lenI (z := x) (k := 1) (by omega) (by rw [show (1000000000 : Int) ^ 1 = 1000000000 from rfl]; omega)
          simp only [List.length_map] at e
          omega
        refine Ret.at (spec_l02Mul_c (k.ext (x8.trans y9)) o9.ints hb.1 (digs_limbs _) (by omega) (by omega)) ?_
        rintro v w10 ⟨p10, n10, c10, hv, o10, y10⟩
        subst hv
        refine ⟨_, _, _, rfl, ?_⟩
        rw [val_digsI Q0] at o10
        have M0 : 0 <= val b * x := Int.mul_nonneg (by omega) Q0
        have hr8 := ((hr5.ext (y6.trans y7)).chg ch8 (fun z hz hm => p4b z hz (by simpa using hm))).ext (y9.trans y10)
        have hle : (digs (val b * x).toNat).length <= (digs N.toNat).length := by
          refine digs_lenI M0 ?_
          have := val_lt (digs_limbs N.toNat)
          rw [hNv] at this
          omega
        have l10 := o10.len
        simp only [List.length_map] at l10
        refine Ret.at (spec_l02Sub_o hr8 o10.ints (digs_limbs _) (digs_limbs _) (by omega) (by omega) (by rw [hNv, val_digsI M0]; omega)) ?_
        rintro v w11 ⟨p11, n11, c11, hv, o11, y11⟩
        subst hv
        rw [hNv, val_digsI M0] at o11
        refine ⟨_, _, _, rfl, ?_⟩
        unfold spec_l03Div_j0
        have X11 := y9.trans (y10.trans y11)
        refine exW ⟨by omega, by omega⟩ ⟨⟨t, o.set t x, N - val b * x, by omega, by omega, by simpa using hol, hb8.ext X11, x8.trans X11, hlo.set ⟨Q0, Q1⟩, fun z hz => by rw [getD_set_ne _ (by omega)]; exact hoz z (by omega), by omega, by omega, o11.ints, ?_, ?_⟩, ?_⟩
        · intro z hz e
          have := (World.ownsRow.lt o11 z (by rw [<- hz]; cases p11 <;> rfl)).1
          have := hblk7.lt; have := y9.le; have := y10.le
          omega
        · rw [eo, hstep x]
        · show ((t : Int) - 1 + 1).toNat < ((t : Int) + 1).toNat
          omega
    · have hs0 : s = 0 := by omega
      subst hs0
      simp only [List.drop_zero] at hv
      have hown : Own wr w.heap.size T_int 1 (some ⟨r, 0, none⟩) n n (o.map (Value.int .i64)) := Own.of_blk hblk (by omega) (by simp [hol]) (by simp only [maxLen]; omega)
      refine Ret.at (spec_l02Trim_c hown.ints) ?_
      rintro v w4 ⟨hv4, hw4, hr4⟩
      subst hv4; subst hw4
      have e1 : val a / val b = val o := by rw [hv, Int.mul_comm, Int.add_comm, Int.add_mul_ediv_right _ _ (by omega), Int.ediv_eq_zero_of_lt hR0 hR1, Int.zero_add]
      have e2 : val a % val b = R := by rw [hv, Int.mul_comm, Int.add_comm, Int.add_mul_emod_self_right, Int.emod_eq_of_lt hR0 hR1]
      have hle := trimL_len o
      have hsub := hown.sub (m := (trimL o).length) (by omega)
      rw [<- trimL_prefix, trimL_eq hlo] at hsub
      rw [trimL_eq hlo]
      refine ⟨_, _, _, rfl, _, _, _, _, _, _, rfl, by rw [e1]; exact hsub, by rw [e2]; exact hR, hx⟩
theorem spec_l03Div_c {w : World} {p q : Option Addr} {n c m d : Nat} {a b : List Int} (h : IntsR w p n c a) (k : IntsR w q m d b) (ha : Limbs a) (hb : Canon b) (hb0 : 0 < m) (hn : n <= 100000) (hm : m <= 100000) :
    Ret P n_spec_l03Div [.slice p n c, .slice q m d] w fun v w' => ∃ p1 n1 c1 p2 n2 c2, v = .tuple #[.slice p1 n1 c1, .slice p2 n2 c2] /\ IntsR w' p1 n1 c1 (digs (val a / val b).toNat) /\ IntsR w' p2 n2 c2 (digs (val a % val b).toNat) /\ Ext w w' :=
  (spec_l03Div_o h k ha hb hb0 hn hm).mono fun v w' ⟨p1, n1, c1, p2, n2, c2, hv, o1, i2, y⟩ => ⟨p1, n1, c1, p2, n2, c2, hv, o1.ints, i2, y⟩
end Go.Proofs.YtbgokfhcgcoipaaGreat
namespace Go.Proofs.YtbgokfhcgcoipaaGreat
open Go Go.Proofs.YtbgokfhcgcoipaaGreat.Sx
theorem ints_uniq {w : World} {p : Option Addr} {n c : Nat} {zs ys : List Int} (h : IntsR w p n c zs) (k : IntsR w p n c ys) : zs = ys := by
  have h1 := h.1; have k1 := k.1
  apply List.ext_getElem (by omega)
  intro i hi hj
  obtain ⟨b, o, hp, hs⟩ := h.2.2.2 (by omega)
  obtain ⟨b', o', hp', hs'⟩ := k.2.2.2 (by omega)
  rw [hp] at hp'
  obtain ⟨rfl, rfl⟩ : b = b' /\ o = o' := by injection hp' with e; injection e with e1 e2; exact ⟨e1, e2⟩
  have a1 := hs i (.int .i64 zs[i]) (by simp [hi])
  have a2 := hs' i (.int .i64 ys[i]) (by simp [hj])
  rw [a1] at a2
  injection a2 with e; injection e
theorem digs_inj {x y : Nat} (h : digs x = digs y) : x = y := by
  have := congrArg val h
  rw [val_digs, val_digs] at this
  omega
theorem numAt_ex : ∃ f : World -> Option Addr -> Nat -> Nat -> Nat, ∀ W p n c y, IntsR W p n c (digs y) -> f W p n c = y := by
  refine ⟨fun W p n c => @dite _ (∃ y, IntsR W p n c (digs y)) (Classical.propDecidable _) (fun h => Classical.choose h) (fun _ => 0), fun W p n c y h => ?_⟩
  have hx : ∃ y, IntsR W p n c (digs y) := ⟨y, h⟩
  show @dite _ (∃ y, IntsR W p n c (digs y)) (Classical.propDecidable _) (fun h => Classical.choose h) (fun _ => 0) = y
  rw [dif_pos hx]
  exact digs_inj (ints_uniq (Classical.choose_spec hx) h)
theorem emod_toNat (x y : Nat) : (((x : Int) % (y : Int)).toNat) = x % y := by
  rw [<- Int.natCast_emod]; exact Int.toNat_natCast _
theorem ediv_toNat (x y : Nat) : (((x : Int) / (y : Int)).toNat) = x / y := by
  rw [<- Int.natCast_ediv]; exact Int.toNat_natCast _
theorem digs_mod_len {x y : Nat} (h : 0 < y) : (digs (x % y)).length <= (digs y).length := by
  refine digs_len _ ?_
  have h1 := val_lt (digs_limbs y)
  rw [val_digs] at h1
  have : ((y : Nat) : Int) < ((1000000000 ^ (digs y).length : Nat) : Int) := by simpa using h1
  exact Nat.lt_trans (Nat.mod_lt _ h) (Int.ofNat_lt.1 this)
theorem digs_mono_len {x y : Nat} (h : x <= y) : (digs x).length <= (digs y).length := by
  refine digs_len _ ?_
  have h1 := val_lt (digs_limbs y)
  rw [val_digs] at h1
  have : ((y : Nat) : Int) < ((1000000000 ^ (digs y).length : Nat) : Int) := by simpa using h1
  exact Nat.lt_of_le_of_lt h (Int.ofNat_lt.1 this)
theorem gcd_step (x y : Nat) : Nat.gcd y (x % y) = Nat.gcd x y := by
  rw [Nat.gcd_comm x y, Nat.gcd_rec y x, Nat.gcd_comm]
theorem impl_natGcd_c {w : World} {p q : Option Addr} {n c m d : Nat} {x y : Nat} (h : IntsR w p n c (digs x)) (k : IntsR w q m d (digs y)) (hn : n <= 100000) (hm : m <= 100000) :
    Ret P n_impl_natGcd [.slice p n c, .slice q m d] w fun v w' => ∃ p' n' c', v = .slice p' n' c' /\ Own w' w.heap.size T_int 1 p' n' c' ((digs (Nat.gcd x y)).map (Value.int .i64)) /\ Ext w w' := by
  refine impl_natGcd_ret ?_
  unfold impl_natGcd
  obtain ⟨f, hf⟩ := numAt_ex
  refine ⟨fun ap an ac bp bn bc wr => ∃ s t, IntsR wr ap an ac (digs s) /\ IntsR wr bp bn bc (digs t) /\ an <= 100000 /\ bn <= 100000 /\ Ext w wr /\ Nat.gcd s t = Nat.gcd x y, fun _ _ _ bp bn bc W => f W bp bn bc, ⟨x, y, h, k, hn, hm, Ext.refl _, rfl⟩, ?_⟩
  intro junk wr ap an ac bp bn bc ⟨s, t, ha, hb, han, hbn, hx, hg⟩
  have hbl := hb.1
  refine ifD (fun hlt => ?_) (fun hge => ?_)
  · have ht : 0 < t := by
      rcases Nat.eq_zero_or_pos t with e | e
      · subst e; rw [digs_zero] at hbl; simp at hbl; omega
      · exact e
    refine Ret.at (impl_natDiv_c ha hb (digs_canon _) (digs_canon _) (by omega) han hbn) ?_
    rintro v w1 ⟨p1, n1, c1, p2, n2, c2, hv, o1, o2, _, y1⟩
    subst hv
    rw [val_digs, val_digs, emod_toNat] at o2
    have hn2 : n2 <= bn := by
      have := o2.len
      simp only [List.length_map] at this
      have := digs_mod_len (x := s) ht
      omega
    refine ⟨_, _, _, _, _, _, rfl, ⟨t, s % t, hb.ext y1, o2.ints, hbn, by omega, hx.trans y1, by rw [gcd_step, hg]⟩, ?_⟩
    show f w1 p2 n2 c2 < f wr bp bn bc
    rw [hf _ _ _ _ _ o2.ints, hf _ _ _ _ _ hb]
    exact Nat.mod_lt _ ht
  · have ht : t = 0 := by
      have : bn = 0 := by omega
      rw [this] at hbl
      exact digs_nil.1 (List.eq_nil_of_length_eq_zero hbl)
    subst ht
    rw [Nat.gcd_zero_right] at hg
    subst hg
    refine Ret.at (impl_natCopy_c ha (by omega)) ?_
    rintro v w1 ⟨p', c', hv, ho, y1⟩
    subst hv
    exact ⟨_, _, _, rfl, _, _, _, rfl, ho.mono hx.le, hx.trans y1⟩
theorem spec_NatGcd_c {w : World} {p q : Option Addr} {n c m d : Nat} {x y : Nat} (h : IntsR w p n c (digs x)) (k : IntsR w q m d (digs y)) (hn : n <= 50) (hm : m <= 50) :
    Ret P n_spec_NatGcd [.slice p n c, .slice q m d] w fun v w' => ∃ p' n' c', v = .slice p' n' c' /\ IntsR w' p' n' c' (digs (Nat.gcd x y)) /\ Ext w w' := by
  refine spec_NatGcd_ret ?_
  unfold spec_NatGcd
  have hl := h.1; have kl := k.1
  have okx : natOk (digs x) = true := natOk_spec.2 ⟨digs_canon x, by omega⟩
  have oky : natOk (digs y) = true := natOk_spec.2 ⟨digs_canon y, by omega⟩
  refine Ret.at (spec_NatOk_c h) ?_
  rintro v w1 ⟨hv, y1⟩
  subst hv
  refine ⟨_, rfl, ifN (fun e => by rw [okx] at e; cases e) (fun _ => ?_)⟩
  refine Ret.at (spec_NatOk_c (k.ext y1)) ?_
  rintro v w2 ⟨hv, y2⟩
  subst hv
  refine ⟨_, rfl, ifN (fun e => by rw [oky] at e; cases e) (fun _ => ?_)⟩
  have x2 := y1.trans y2
  unfold spec_NatGcd_j0
  intro r w3 hn3
  obtain ⟨p4, c4, w4, ap4, o4, x4⟩ := Own.appendI (Own.fresh hn3) hn3.ext.le (h.ext (x2.trans hn3.ext)) (by omega)
  rw [List.nil_append, Nat.zero_add] at o4
  rw [Nat.zero_add] at ap4
  have X4 := x4 w2 hn3.ext (Nat.le_refl _)
  refine ⟨_, _, _, _, ap4, ?_⟩
  intro r5 w5 hn5
  obtain ⟨p6, c6, w6, ap6, o6, x6⟩ := Own.appendI (Own.fresh hn5) hn5.ext.le (k.ext ((x2.trans X4).trans hn5.ext)) (by omega)
  rw [List.nil_append, Nat.zero_add] at o6
  rw [Nat.zero_add] at ap6
  have X6 := x6 w4 hn5.ext (Nat.le_refl _)
  refine ⟨_, _, _, _, ap6, ?_⟩
  obtain ⟨f, hf⟩ := numAt_ex
  refine ⟨fun ap an ac bp bn bc wr => ∃ s t, IntsR wr ap an ac (digs s) /\ IntsR wr bp bn bc (digs t) /\ an <= 100000 /\ bn <= 100000 /\ Ext w wr /\ Nat.gcd s t = Nat.gcd x y, fun _ _ _ bp bn bc W => f W bp bn bc, ⟨x, y, (o4.ext X6).ints, o6.ints, by omega, by omega, (x2.trans X4).trans X6, rfl⟩, ?_⟩
  intro junk wr ap an ac bp bn bc ⟨s, t, ha, hb, han, hbn, hx, hg⟩
  have hbl := hb.1
  refine ifD (fun hlt => ?_) (fun hge => ?_)
  · have ht : 0 < t := by
      rcases Nat.eq_zero_or_pos t with e | e
      · subst e; rw [digs_zero] at hbl; simp at hbl; omega
      · exact e
    refine Ret.at (spec_l03Div_c ha hb (digs_limbs _) (digs_canon _) (by omega) han hbn) ?_
    rintro v w1 ⟨p1, n1, c1, p2, n2, c2, hv, o1, o2, y1⟩
    subst hv
    rw [val_digs, val_digs, emod_toNat] at o2
    have hn2 : n2 <= bn := by
      have := o2.1
      have := digs_mod_len (x := s) ht
      omega
    refine ⟨_, _, _, _, _, _, rfl, ⟨t, s % t, hb.ext y1, o2, hbn, by omega, hx.trans y1, by rw [gcd_step, hg]⟩, ?_⟩
    show f w1 p2 n2 c2 < f wr bp bn bc
    rw [hf _ _ _ _ _ o2, hf _ _ _ _ _ hb]
    exact Nat.mod_lt _ ht
  · have ht : t = 0 := by
      have : bn = 0 := by omega
      rw [this] at hbl
      exact digs_nil.1 (List.eq_nil_of_length_eq_zero hbl)
    subst ht
    rw [Nat.gcd_zero_right] at hg
    subst hg
    exact ⟨_, _, _, rfl, ha, hx⟩
def ratOk : List D0 -> Bool
  | [.bool s, .ints x, .ints y] => intOk [.bool s, .ints x] && natOk y && !y.isEmpty && decide (y.length <= 18) && decide (x.length <= 18) && decide (Nat.gcd (val x).toNat (val y).toNat = 1)
  | _ => false
theorem digs_one : digs 1 = [1] := by rw [digs_pos (by decide)]; simp [digs_zero]
theorem spec_RatOk_c {w : World} {xs : List Value} {dx : List D0} (h : Reps w xs dx) (hc : dx.map D0.code = [.bool, .ints, .ints]) :
    Ret P n_spec_RatOk [.agg ⟨xs⟩] w fun v w' => v = .bool (ratOk dx) /\ Ext w w' := by
  have hr := h
  obtain ⟨a0, a1p, a1n, a1c, a1z, a2p, a2n, a2c, a2z, rfl, rfl, ir1, ir2⟩ := open_Rat h hc
  refine spec_RatOk_ret ?_
  unfold spec_RatOk
  intro r w1 hn1
  have l1 := ir1.1; have l2 := ir2.1
  have hi : Reps w1 [.bool a0, .slice a1p a1n a1c] [.bool a0, .ints a1z] := ⟨rfl, ⟨_, _, _, rfl, ir1.ext hn1.ext⟩, trivial⟩
  have b := hn1.blk
  refine ⟨_, _, _, _, b.loadAAt 0 [.bool a0, .slice a1p a1n a1c] rfl (by kernel_rfl) rfl, ?_⟩
  refine Ret.at (spec_IntOk_c hi rfl) ?_
  rintro v w2 ⟨hv, y2⟩
  subst hv
  have b2 := b.ext y2
  have X2 := hn1.ext.trans y2
  refine ⟨_, rfl, ifN (fun e => ifT (ifT (ifT (ifT ⟨by simp [ratOk, e], X2⟩)))) (fun e1 => ⟨_, _, _, b2.loadAt 2 rfl (by kernel_rfl) rfl, ?_⟩)⟩
  refine Ret.at (spec_NatOk_c (ir2.ext X2)) ?_
  rintro v w3 ⟨hv, y3⟩
  subst hv
  have b3 := b2.ext y3
  have X3 := X2.trans y3
  refine ⟨_, rfl, ifN (fun e => ifT (ifT (ifT ⟨by simp [ratOk, e], X3⟩))) (fun e2 => ⟨_, _, _, b3.loadAt 2 rfl (by kernel_rfl) rfl, ifD (fun e => ifT (ifT ⟨?_, X3⟩)) (fun e3 => ⟨_, _, _, b3.loadAt 2 rfl (by kernel_rfl) rfl, ifD (fun e => ifT ⟨?_, X3⟩) (fun e4 => ⟨_, _, _, b3.loadAt 1 rfl (by kernel_rfl) rfl, ifD (fun e => ⟨?_, X3⟩) (fun e5 => ?_)⟩)⟩)⟩)⟩
  · have : a2z = [] := List.eq_nil_of_length_eq_zero (by omega)
    simp [ratOk, this]
  · simp only [ratOk, show decide (a2z.length <= 18) = false by simp; omega, Bool.and_false, Bool.false_and]
  · simp only [ratOk, show decide (a1z.length <= 18) = false by simp; omega, Bool.and_false, Bool.false_and]
  have ok1 := natOk_spec.1 e2
  have ok0 := (intOk_enc e1).2
  obtain ⟨b', z', ez, can1, _⟩ := ok0
  simp only [List.cons.injEq, D0.ints.injEq, D0.bool.injEq, and_true] at ez
  obtain ⟨_, rfl⟩ := ez
  have r1 := ir1.ext X3; have r2 := ir2.ext X3
  rw [<- digs_val can1] at r1
  rw [<- digs_val ok1.1] at r2
  refine ⟨_, _, _, b3.loadAt 1 rfl (by kernel_rfl) rfl, _, _, _, b3.loadAt 2 rfl (by kernel_rfl) rfl, ?_⟩
  refine Ret.at (spec_NatGcd_c r1 r2 (by omega) (by omega)) ?_
  rintro v w4 ⟨p', n', c', hv, ho, y4⟩
  subst hv
  have hne : a2z.isEmpty = false := by cases a2z with
    | nil => simp at l2; omega
    | cons => rfl
  have val' : ratOk [.bool a0, .ints a1z, .ints a2z] = decide (Nat.gcd (val a1z).toNat (val a2z).toNat = 1) := by
    simp only [ratOk, e1, e2, hne, show decide (a2z.length <= 18) = true by simp; omega, show decide (a1z.length <= 18) = true by simp; omega, Bool.not_false, Bool.and_self, Bool.true_and]
  refine ⟨_, _, _, rfl, fun r5 w5 hn5 => ?_⟩
  have one : IntsR w5 (some ⟨r5, 0, none⟩) 1 1 [1] := ⟨rfl, Nat.le_refl _, by omega, fun _ => ⟨_, 0, rfl, hn5.blk.seg⟩⟩
  refine Ret.at (spec_l02Cmp_c (ho.ext hn5.ext) one) ?_
  rintro v w6 ⟨hv, y6⟩
  subst hv
  refine ⟨_, rfl, ?_, X3.trans (y4.trans (hn5.ext.trans y6))⟩
  rw [val', <- digs_one]
  by_cases e : Nat.gcd (val a1z).toNat (val a2z).toNat = 1
  · have h0 : cmpL (digs (Nat.gcd (val a1z).toNat (val a2z).toNat)) (digs 1) = 0 := cmpL_zero.2 (congrArg digs e)
    rw [decide_eq_true h0, decide_eq_true e]
  · have : ¬ cmpL (digs (Nat.gcd (val a1z).toNat (val a2z).toNat)) (digs 1) = 0 := fun hc => e (digs_inj (cmpL_zero.1 hc))
    rw [decide_eq_false this, decide_eq_false e]
end Go.Proofs.YtbgokfhcgcoipaaGreat
namespace Go.Proofs.YtbgokfhcgcoipaaGreat
open Go Go.Proofs.YtbgokfhcgcoipaaGreat.Sx
def sgn (z : Int) : Int := if z < 0 then -1 else if z = 0 then 0 else 1
end Go.Proofs.YtbgokfhcgcoipaaGreat
namespace Go.Proofs.YtbgokfhcgcoipaaGreat
open Go Go.Proofs.YtbgokfhcgcoipaaGreat.Sx
theorem icmp_enc {x y : Int} (hx : intOk (enc x) = true) (hy : intOk (enc y) = true) : icmp (enc x) (enc y) = sgn (x - y) := by
  have cv := cmpL_val (digs_canon x.natAbs) (digs_canon y.natAbs)
  have cv2 := cmpL_val (digs_canon y.natAbs) (digs_canon x.natAbs)
  rw [val_digs, val_digs] at cv cv2
  unfold enc at hx hy
  unfold enc
  simp only [icmp, hx, hy, Bool.not_true, Bool.or_self, Bool.false_eq_true, if_false, sgn]
  by_cases h1 : x < 0 <;> by_cases h2 : y < 0 <;> simp only [h1, h2, decide_true, decide_false, Bool.not_true, Bool.not_false, Bool.and_true, Bool.true_and, Bool.and_false, Bool.false_and, Bool.false_eq_true, if_true, if_false]
  · rcases cv2 with ⟨h, h'⟩ | ⟨h, h'⟩ | ⟨h, h'⟩ <;> rw [h] <;> (repeat' split) <;> omega
  · (repeat' split) <;> omega
  · (repeat' split) <;> omega
  · rcases cv with ⟨h, h'⟩ | ⟨h, h'⟩ | ⟨h, h'⟩ <;> rw [h] <;> (repeat' split) <;> omega
end Go.Proofs.YtbgokfhcgcoipaaGreat
namespace Go.Proofs.YtbgokfhcgcoipaaGreat
open Go Go.Proofs.YtbgokfhcgcoipaaGreat.Sx
theorem Sx.append0 {w : World} {r : Nat} {q : Option Addr} {m d : Nat} {ys : List Int} (hb : Blk w r T_int []) (k : IntsR w q m d ys) (hm : m <= 100000000) :
    ∃ p' c' w', Appends P [T_s_int, T_s_int] [.slice (some ⟨r, 0, none⟩) 0 0, .slice q m d] (.slice p' m c') w w' /\ Own w' r T_int 1 p' m c' (ys.map (Value.int .i64)) /\ Ext w w' := by
  have h : Own w r T_int 1 (some ⟨r, 0, none⟩) 0 0 (([] : List Int).map (Value.int .i64)) := Own.of_blk0 hb (Nat.le_refl _) rfl (by decide)
  obtain ⟨p', c', w', h1, h2, h3⟩ := Own.appendI h (Nat.le_of_lt hb.lt) k (by omega)
  rw [Nat.zero_add] at h1 h2
  refine ⟨p', c', w', h1, by simpa using h2, ?_⟩
  obtain ⟨hu, hi, hz, hs⟩ := sliceT_int
  cases hinf : P.info? T_int with
  | none => rw [hinf] at hi; cases hi
  | some i =>
    rw [hinf] at hi
    simp only [Option.map_some, Option.some.injEq, Prod.mk.injEq] at hi
    cases q with
    | none =>
      have hm0 : m = 0 := by
        rcases Nat.eq_zero_or_pos m with h0 | h0
        · exact h0
        · obtain ⟨b, off, hp, _⟩ := k.2.2.2 h0; cases hp
      subst hm0
      have := run_append_none (P := P) w r T_s_int 0 T_int i 1 hu hinf _ 0 d _ h
      have h1 : (Builtin.append_ #[T_s_int, T_s_int] 0 #[.slice (some ⟨r, 0, none⟩) 0 0, .slice none 0 d]).run P w = .ok (.slice p' 0 c') w' := h1
      rw [this] at h1
      cases h1
      exact Ext.refl _
    | some a =>
      have hcells : ∀ j u, (ys.map (Value.int .i64))[j]? = some u -> w.cell? (a.add j) = some u := by
        intro j u hj
        have hl : j < m := by
          have := (List.getElem?_eq_some_iff.1 hj).1
          rw [List.length_map, k.1] at this; exact this
        obtain ⟨b, off, hp, hseg⟩ := k.2.2.2 (by omega)
        cases hp
        rw [addr_add]
        exact hseg j u hj
      have h1 : (Builtin.append_ #[T_s_int, T_s_int] 0 #[.slice (some ⟨r, 0, none⟩) 0 0, .slice (some a) m d]).run P w = .ok (.slice p' m c') w' := h1
      rcases Nat.eq_zero_or_pos m with h0 | h0
      · subst h0
        have hy : ys = [] := List.eq_nil_of_length_eq_zero k.1
        subst hy
        have := run_append_room (P := P) w T_s_int 0 T_int i hu hinf r 0 0 #[] hb a 0 d [] (by simp) (by simp) (by simp) (by omega) (by simp)
        rw [this] at h1
        cases h1
        have e : w.setRow r ((#[] : Array Value).toList.take (0 * i.size) ++ ([] : List Value) ++ (#[] : Array Value).toList.drop (0 * i.size + ([] : List Value).length)).toArray = w := by
          have := setRow_self w r #[] T_int (0, 0) hb
          simpa using this
        rw [e]
        exact Ext.refl _
      · have hnext : Builtin.nextslicecap (0 + m) 0 * i.bytes <= 281474976710656 := by
          rw [Nat.zero_add, nextslicecap_zero h0, hi.2.2]; omega
        have := run_append_grow (P := P) w T_s_int 0 T_int i (.int .i64 0) hu hinf hi.1 ⟨r, 0, none⟩ 0 0 [] (by simp) (by simp) a m d (ys.map (Value.int .i64)) (by simp [k.1, hi.2.1]) hcells (by omega) (by omega) hnext
        rw [this] at h1
        injection h1 with _ hw
        rw [<- hw]
        exact (Ext.drew w).trans ((Go.RowKit.Below.refl _ _).alloc (Nat.le_refl _) _)
theorem Sx.Fl.got {os : List Obj} {ss : List (Option Nat)} {w : World} {ss' : List (Option Nat)} {w' : World} (h : Fl os ss w ss' w') : ∀ {k r : Nat} {o : Obj}, ss[k]? = some none -> os[k]? = some o -> ss'[k]? = some (some r) -> w.heap.size <= r /\ w'.heap[r]? = some o := by
  induction h with
  | refl => intro k r o h0 _ h1; rw [h0] at h1; cases h1
  | step h1 h2 h3 ih =>
    rename_i ss w k' o' ss' w'
    intro k r o h0 ho hr
    by_cases hk : k' = k
    · subst hk
      rw [h2] at ho
      cases ho
      have hset : (ss.set k' (some w.heap.size))[k']? = some (some w.heap.size) := by
        rw [List.getElem?_set_self]
        exact (List.getElem?_eq_some_iff.1 h1).1
      have := h3.keeps hset
      rw [this] at hr
      cases hr
      exact ⟨Nat.le_refl _, (h3.ext.block _ (by simp)).trans (heap_alloc_new w _)⟩
    · obtain ⟨a, b⟩ := ih (k := k) (r := r) (o := o) (by rw [List.getElem?_set_ne hk]; exact h0) ho hr
      refine ⟨?_, b⟩
      have : w.heap.size <= (w.alloc o').heap.size := by simp
      omega
def ratZeroD : List D0 := [.bool false, .ints [], .ints [1]]
theorem spec_RatZero_c (w : World) : Ret P n_spec_RatZero [] w fun v w' => ∃ vs' f, v = .agg ⟨vs'⟩ /\ Owns w' w.heap.size vs' ratZeroD f /\ f.Nodup /\ Ext w w' := by
  refine spec_RatZero_ret ?_
  unfold spec_RatZero
  intro r w1 hn1 r1 w2 hn2
  have e1 := hn1.r_eq; have e2 := hn2.r_eq; have s1 := hn1.size; have s2 := hn2.size
  obtain ⟨w3, st, hb3, ch, sz⟩ := (hn1.blk.ext hn2.ext).storeA0 (P := P) (t := T_impl_Rat) (xs := [.bool false, .slice none 0 0, .slice (some ⟨r1, 0, none⟩) 1 1]) (by kernel_rfl) rfl (by simp [Value.oneCell'])
  have ho : Own w3 w.heap.size T_int 1 (some ⟨r1, 0, none⟩) 1 1 (([1] : List Int).map (Value.int .i64)) := Own.of_blk (hn2.blk.chg ch (by simp; omega)) (by omega) rfl (by decide)
  exact ⟨w3, st, _, _, _, _, _, _, _, hb3.loadA0 (by kernel_rfl), _, _, rfl, Owns.append (Owns.bool _ _ false) (Owns.append (Owns.ints (zs := []) (Own.nil w3 w.heap.size T_int 1)) (Owns.ints ho)), by simp, (hn1.ext.trans hn2.ext).chg ch (by simp; omega)⟩
end Go.Proofs.YtbgokfhcgcoipaaGreat
namespace Go.Proofs.YtbgokfhcgcoipaaGreat
open Go Go.Proofs.YtbgokfhcgcoipaaGreat.Sx
def ratNum : List D0 -> Int
  | [.bool s, .ints x, .ints _] => ival [.bool s, .ints x]
  | _ => 0
def ratDen : List D0 -> Nat
  | [.bool _, .ints _, .ints y] => (val y).toNat
  | _ => 0
def rmk (n : Int) (d : Nat) : List D0 := [.bool (decide (n < 0)), .ints (digs n.natAbs), .ints (digs d)]
theorem rmk_enc (n : Int) (d : Nat) : rmk n d = enc n ++ [.ints (digs d)] := rfl
theorem rmk_code (n : Int) (d : Nat) : (rmk n d).map D0.code = [.bool, .ints, .ints] := rfl
theorem ratNum_rmk (n : Int) (d : Nat) : ratNum (rmk n d) = n := ival_enc n
theorem ratDen_rmk (n : Int) (d : Nat) : ratDen (rmk n d) = d := by simp [ratDen, rmk, val_digs]
theorem ival_natAbs {s : Bool} {x : List Int} (h : Limbs x) : (ival [.bool s, .ints x]).natAbs = (val x).toNat := by
  have := val_nonneg h
  unfold ival
  cases s <;> simp <;> omega
theorem ratOk_enc {dx : List D0} (h : ratOk dx = true) : dx = rmk (ratNum dx) (ratDen dx) /\ 0 < ratDen dx /\ Nat.gcd (ratNum dx).natAbs (ratDen dx) = 1 /\ (digs (ratNum dx).natAbs).length <= 18 /\ (digs (ratDen dx)).length <= 18 := by
  match dx, h with
  | [.bool s, .ints x, .ints y], h =>
    simp only [ratOk, Bool.and_eq_true, decide_eq_true_eq, Bool.not_eq_true'] at h
    obtain ⟨⟨⟨⟨⟨h1, h2⟩, h3⟩, h4⟩, h5⟩, h6⟩ := h
    have e1 := (intOk_enc h1).1
    obtain ⟨b', z', ez, can1, _⟩ := (intOk_enc h1).2
    simp only [List.cons.injEq, D0.ints.injEq, D0.bool.injEq, and_true] at ez
    obtain ⟨_, rfl⟩ := ez
    have can2 := (natOk_spec.1 h2).1
    have na := ival_natAbs (s := s) can1.1
    have ey := digs_val can2
    have hp := canon_pos can2 (by intro e; subst e; simp at h3)
    have ex := digs_val can1
    refine ⟨?_, ?_, ?_, ?_, ?_⟩
    · have e1' : [D0.bool s, .ints x] = enc (ratNum [.bool s, .ints x, .ints y]) := e1
      have ey' : digs (ratDen [.bool s, .ints x, .ints y]) = y := ey
      rw [rmk_enc, <- e1', ey']; rfl
    · simp only [ratDen]; omega
    · simp only [ratNum, ratDen, na]; exact h6
    · simp only [ratNum, na, ex]; exact h5
    · simp only [ratDen, ey]; exact h4
theorem ratOk_rmk {n : Int} {d : Nat} (hd : 0 < d) (hg : Nat.gcd n.natAbs d = 1) (h1 : (digs n.natAbs).length <= 18) (h2 : (digs d).length <= 18) : ratOk (rmk n d) = true := by
  have i1 : intOk [.bool (decide (n < 0)), .ints (digs n.natAbs)] = true := by
    have := icap_ok n
    rwa [icap_fit (by omega)] at this
  have i2 : natOk (digs d) = true := natOk_spec.2 ⟨digs_canon d, by omega⟩
  have i3 : (digs d).isEmpty = false := by rw [isEmpty_digs]; simp; omega
  simp only [ratOk, rmk, i1, i2, i3, decide_eq_true h1, decide_eq_true h2, val_digs, Int.toNat_natCast, Bool.not_false, Bool.and_self, Bool.true_and]
  exact decide_eq_true hg
def rsign (dx : List D0) : Int := if ratOk dx then sgn (ratNum dx) else 0
def rcmp (dx dy : List D0) : Int := if ratOk dx && ratOk dy then sgn (ratNum dx * ratDen dy - ratNum dy * ratDen dx) else 0
theorem zero_ok : ratOk ratZeroD = true := by
  have : ratZeroD = rmk 0 1 := by simp [ratZeroD, rmk, digs_zero, digs_one]
  rw [this]
  exact ratOk_rmk (by decide) rfl (by simp [digs_zero]) (by simp [digs_one])
theorem zero_num : ratNum ratZeroD = 0 := by simp [ratZeroD, ratNum, ival, val]
theorem zero_den : ratDen ratZeroD = 1 := by simp [ratZeroD, ratDen, val]
theorem rcmp_zero (dx : List D0) : rcmp dx ratZeroD = rsign dx := by
  unfold rcmp rsign
  rw [zero_ok, Bool.and_true, zero_num, zero_den]
  simp
theorem rat_parts {w : World} {vs : List Value} {dx : List D0} (h : Reps w vs dx) (hc : dx.map D0.code = [.bool, .ints, .ints]) (hok : ratOk dx = true) :
    ∃ p1 n1 c1 p2 n2 c2, vs = [.bool (decide (ratNum dx < 0)), .slice p1 n1 c1, .slice p2 n2 c2] /\ IntsR w p1 n1 c1 (digs (ratNum dx).natAbs) /\ IntsR w p2 n2 c2 (digs (ratDen dx)) /\ n1 <= 18 /\ n2 <= 18 /\ Reps w [.bool (decide (ratNum dx < 0)), .slice p1 n1 c1] (enc (ratNum dx)) := by
  obtain ⟨e, h1, h2, h3, h4⟩ := ratOk_enc hok
  obtain ⟨a0, a1p, a1n, a1c, a1z, a2p, a2n, a2c, a2z, rfl, hd, ir1, ir2⟩ := open_Rat h hc
  rw [hd] at e
  simp only [rmk, List.cons.injEq, D0.ints.injEq, D0.bool.injEq, and_true] at e
  rw [<- hd] at e
  obtain ⟨e0, e1, e2⟩ := e
  rw [e1] at ir1
  rw [e2] at ir2
  have l1 := ir1.1; have l2 := ir2.1
  exact ⟨_, _, _, _, _, _, by rw [e0], ir1, ir2, by omega, by omega, rfl, ⟨_, _, _, rfl, ir1⟩, trivial⟩
theorem prod_make {w : World} {n : Int} {d : Nat} {p : Option Addr} {m c : Nat} (h : IntsR w p m c (digs ((n.natAbs : Int) * d).toNat)) (hd : 0 < d) (hl : m <= 50) :
    Ret P n_spec_l04Make [.bool (decide (n < 0)), .slice p m c] w fun v w' => ∃ b p n' c, v = .agg ⟨[.bool b, .slice p n' c]⟩ /\ Reps w' [.bool b, .slice p n' c] (enc (n * d)) /\ intOk (enc (n * d)) = true /\ Ext w w' := by
  have hlen := h.1
  refine (spec_l04Make_c h (digs_limbs _)).mono ?_
  rintro v w' ⟨b, p', n', c', hv, hb, ho, y⟩
  have ez : val (digs ((n.natAbs : Int) * d).toNat) = (n.natAbs : Int) * d := val_digsI (Int.mul_nonneg (by omega) (by omega))
  rw [ez] at hb ho
  have ecap : capL (digs ((n.natAbs : Int) * d).toNat) = digs ((n.natAbs : Int) * d).toNat := by unfold capL; rw [if_pos (by omega)]
  rw [ecap] at hb ho
  have ea : (n * d).natAbs = ((n.natAbs : Int) * d).toNat := by
    rw [Int.natAbs_mul, Int.natAbs_natCast, <- Int.natCast_mul, Int.toNat_natCast]
  have eb : (decide (n < 0) && !(digs ((n.natAbs : Int) * d).toNat).isEmpty) = decide (n * d < 0) := by
    rw [isEmpty_digs, <- ea]
    by_cases hn : n < 0
    · have h1 : n * (d : Int) < 0 := Int.mul_neg_of_neg_of_pos hn (by omega)
      have h2 : (n * (d : Int)).natAbs ≠ 0 := by omega
      simp [hn, h1, h2]
    · have h1 : ¬ n * (d : Int) < 0 := Int.not_lt.2 (Int.mul_nonneg (by omega) (by omega))
      simp [hn, h1]
  refine ⟨b, p', n', c', hv, ?_, ?_, y⟩
  · rw [enc, ea, <- eb, <- hb]
    exact ⟨rfl, ⟨_, _, _, rfl, ho.ints⟩, trivial⟩
  · have := icap_ok (n * d)
    rwa [icap_fit (by rw [ea]; omega)] at this
theorem prod_len {x y : Nat} {i j : Nat} (hx : (digs x).length <= i) (hy : (digs y).length <= j) : (digs (x * y)).length <= i + j := by
  apply digs_len
  have h1 := val_lt (digs_limbs x); have h2 := val_lt (digs_limbs y)
  rw [val_digs] at h1 h2
  have h1' : x < 1000000000 ^ i := by
    have : ((x : Nat) : Int) < ((1000000000 ^ (digs x).length : Nat) : Int) := by simpa using h1
    exact Nat.lt_of_lt_of_le (Int.ofNat_lt.1 this) (Nat.pow_le_pow_right (by decide) hx)
  have h2' : y < 1000000000 ^ j := by
    have : ((y : Nat) : Int) < ((1000000000 ^ (digs y).length : Nat) : Int) := by simpa using h2
    exact Nat.lt_of_lt_of_le (Int.ofNat_lt.1 this) (Nat.pow_le_pow_right (by decide) hy)
  rw [Nat.pow_add]
  exact Nat.mul_lt_mul'' h1' h2'
theorem spec_RatCmp_c {w : World} {xs ys : List Value} {dx dy : List D0} (h : Reps w xs dx) (k : Reps w ys dy) (hc : dx.map D0.code = [.bool, .ints, .ints]) (kc : dy.map D0.code = [.bool, .ints, .ints]) :
    Ret P n_spec_RatCmp [.agg ⟨xs⟩, .agg ⟨ys⟩] w fun v w' => v = .int .i64 (rcmp dx dy) /\ Ext w w' := by
  have hr := h; have hcc := hc; have kr := k; have kcc := kc
  obtain ⟨a0, a1p, a1n, a1c, a1z, a2p, a2n, a2c, a2z, rfl, rfl, ir1, ir2⟩ := open_Rat h hc
  obtain ⟨b0, b1p, b1n, b1c, b1z, b2p, b2n, b2c, b2z, rfl, rfl, jr1, jr2⟩ := open_Rat k kc
  refine spec_RatCmp_ret ?_
  unfold spec_RatCmp
  intro r w1 hn1 s w2 hn2
  have X2 := hn1.ext.trans hn2.ext
  have br := hn1.blk.ext hn2.ext
  refine ⟨_, _, _, _, _, _, _, br.loadA0 (by kernel_rfl), ?_⟩
  refine Ret.at (spec_RatOk_c (hr.ext X2) rfl) ?_
  rintro v w3 ⟨hv, y3⟩
  subst hv
  have X3 := X2.trans y3
  refine ⟨_, rfl, ifN (fun e => ifT ⟨by simp [rcmp, e], X3⟩) (fun e1 => ⟨_, _, _, _, _, _, _, (hn2.blk.ext y3).loadA0 (by kernel_rfl), ?_⟩)⟩
  refine Ret.at (spec_RatOk_c (kr.ext X3) rfl) ?_
  rintro v w4 ⟨hv, y4⟩
  subst hv
  have X4 := X3.trans y4
  refine ⟨_, rfl, ifN (fun e => ⟨by simp [rcmp, e], X4⟩) (fun e2 => ?_)⟩
  have D := Ext.drew w4
  have X5 := X4.trans D
  have br5 := (br.ext (y3.trans y4)).ext D
  have bs5 := (hn2.blk.ext (y3.trans y4)).ext D
  obtain ⟨p1, n1, c1, p2, n2, c2, ev, i1, i2, g1, g2, he⟩ := rat_parts hr hcc e1
  obtain ⟨q1, m1, d1, q2, m2, d2, fv, j1, j2, f1, f2, ke⟩ := rat_parts kr kcc e2
  have hn := (ratOk_enc e1).2; have kn := (ratOk_enc e2).2
  have hrc : rcmp [.bool a0, .ints a1z, .ints a2z] [.bool b0, .ints b1z, .ints b2z] = sgn (ratNum [.bool a0, .ints a1z, .ints a2z] * ratDen [.bool b0, .ints b1z, .ints b2z] - ratNum [.bool b0, .ints b1z, .ints b2z] * ratDen [.bool a0, .ints a1z, .ints a2z]) := by
    unfold rcmp; rw [e1, e2]; rfl
  rw [hrc]
  generalize ratNum [.bool a0, .ints a1z, .ints a2z] = N1 at ev i1 he hn
  generalize ratNum [.bool b0, .ints b1z, .ints b2z] = N2 at fv j1 ke kn
  generalize ratDen [.bool a0, .ints a1z, .ints a2z] = D1 at i2 hn
  generalize ratDen [.bool b0, .ints b1z, .ints b2z] = D2 at j2 kn
  simp only [List.cons.injEq, Value.slice.injEq, Value.bool.injEq, and_true] at ev fv
  obtain ⟨rfl, ⟨rfl, rfl, rfl⟩, rfl, rfl, rfl⟩ := ev
  obtain ⟨rfl, ⟨rfl, rfl, rfl⟩, rfl, rfl, rfl⟩ := fv
  unfold spec_RatCmp_j0
  refine ⟨_, fun W hW => (br5.ext hW).loadAt 0 rfl (by kernel_rfl) rfl, _, _, _, fun W hW => (br5.ext hW).loadAt 1 rfl (by kernel_rfl) rfl, _, _, _, fun W hW => (bs5.ext hW).loadAt 2 rfl (by kernel_rfl) rfl, ?_⟩
  refine Ret.at (spec_l02Mul_c (i1.ext X5) (j2.ext X5) (digs_limbs _) (digs_limbs _) (by omega) (by omega)) ?_
  rintro v w6 ⟨p6, n6, c6, hv, o6, y6⟩
  subst hv
  rw [val_digs, val_digs] at o6
  have l6 := o6.len
  simp only [List.length_map] at l6
  have t6 := prod_len hn.2.2.1 kn.2.2.2
  rw [show N1.natAbs * D2 = ((N1.natAbs : Int) * D2).toNat by rw [<- Int.natCast_mul, Int.toNat_natCast]] at t6
  refine ⟨_, _, _, rfl, y6, ?_⟩
  refine Ret.at (prod_make o6.ints kn.1 (by omega)) ?_
  rintro v w7 ⟨b7, p7, n7, c7, hv, r7, k7, y7⟩
  subst hv
  have Y7 := y6.trans y7
  refine ⟨_, _, _, _, rfl, y7, _, fun W hW => (bs5.ext hW).loadAt 0 rfl (by kernel_rfl) rfl, _, _, _, fun W hW => (bs5.ext hW).loadAt 1 rfl (by kernel_rfl) rfl, _, _, _, fun W hW => (br5.ext hW).loadAt 2 rfl (by kernel_rfl) rfl, ?_⟩
  refine Ret.at (spec_l02Mul_c (j1.ext (X5.trans Y7)) (i2.ext (X5.trans Y7)) (digs_limbs _) (digs_limbs _) (by omega) (by omega)) ?_
  rintro v w8 ⟨p8, n8, c8, hv, o8, y8⟩
  subst hv
  rw [val_digs, val_digs] at o8
  have l8 := o8.len
  simp only [List.length_map] at l8
  have t8 := prod_len kn.2.2.1 hn.2.2.2
  rw [show N2.natAbs * D1 = ((N2.natAbs : Int) * D1).toNat by rw [<- Int.natCast_mul, Int.toNat_natCast]] at t8
  refine ⟨_, _, _, rfl, y8, ?_⟩
  refine Ret.at (prod_make o8.ints hn.1 (by omega)) ?_
  rintro v w9 ⟨b9, p9, n9, c9, hv, r9, k9, y9⟩
  subst hv
  refine ⟨_, _, _, _, rfl, ?_⟩
  refine Ret.at (spec_IntCmp_c (r7.ext (y8.trans y9)) r9 (enc_code _) (enc_code _)) ?_
  rintro v w10 ⟨hv, y10⟩
  subst hv
  exact ⟨_, rfl, by rw [icmp_enc k7 k9], X5.trans (Y7.trans (y8.trans (y9.trans y10)))⟩
theorem spec_RatSign_c {w : World} {xs : List Value} {dx : List D0} (h : Reps w xs dx) (hc : dx.map D0.code = [.bool, .ints, .ints]) :
    Ret P n_spec_RatSign [.agg ⟨xs⟩] w fun v w' => v = .int .i64 (rsign dx) /\ Ext w w' := by
  have hr := h
  obtain ⟨a0, a1p, a1n, a1c, a1z, a2p, a2n, a2c, a2z, rfl, rfl, ir1, ir2⟩ := open_Rat h hc
  refine spec_RatSign_ret ?_
  unfold spec_RatSign
  intro r w1 hn1
  have D := Ext.drew w1
  have X := hn1.ext.trans D
  refine ⟨_, _, _, _, _, _, _, fun W hW => ((hn1.blk.ext D).ext hW).loadA0 (by kernel_rfl), ?_⟩
  refine Ret.at (spec_RatZero_c _) ?_
  rintro v w2 ⟨vs, f, hv, ho, _, y2⟩
  subst hv
  have ho' := ho.reps
  obtain ⟨g0, g1p, g1n, g1c, g1z, g2p, g2n, g2c, g2z, rfl, hd, _⟩ := open_Rat ho.reps rfl
  refine ⟨_, _, _, _, _, _, _, rfl, y2, ?_⟩
  refine Ret.at (spec_RatCmp_c (hr.ext (X.trans y2)) ho' rfl rfl) ?_
  rintro v w3 ⟨hv, y3⟩
  subst hv
  exact ⟨_, rfl, by rw [rcmp_zero], X.trans (y2.trans y3)⟩
end Go.Proofs.YtbgokfhcgcoipaaGreat
namespace Go.Proofs.YtbgokfhcgcoipaaGreat
open Go Go.Proofs.YtbgokfhcgcoipaaGreat.Sx
def rat0 : List D0 := [.bool false, .ints [], .ints []]
def redN (n : Int) (d : Nat) : Int := if n < 0 then -((n.natAbs / Nat.gcd n.natAbs d : Nat) : Int) else ((n.natAbs / Nat.gcd n.natAbs d : Nat) : Int)
def redD (n : Int) (d : Nat) : Nat := d / Nat.gcd n.natAbs d
def redOk (n : Int) (d : Nat) : Bool := decide ((digs (n.natAbs / Nat.gcd n.natAbs d)).length <= 18) && decide ((digs (d / Nat.gcd n.natAbs d)).length <= 18)
def redR (n : Int) (d : Nat) : List D0 := if redOk n d then rmk (redN n d) (redD n d) else rat0
theorem redR_code (n : Int) (d : Nat) : (redR n d).map D0.code = [.bool, .ints, .ints] := by unfold redR; split <;> rfl
theorem redN_abs (n : Int) (d : Nat) : (redN n d).natAbs = n.natAbs / Nat.gcd n.natAbs d := by
  unfold redN
  generalize n.natAbs / Nat.gcd n.natAbs d = q
  split <;> omega
theorem enc_redN (n : Int) (d : Nat) : enc (redN n d) = mkS (decide (n < 0)) (digs (n.natAbs / Nat.gcd n.natAbs d)) := by
  unfold redN
  by_cases h : n < 0
  · rw [if_pos h, decide_eq_true h, mkS_neg]
  · rw [if_neg h, decide_eq_false h, mkS_pos]
theorem gcd_pos_right {m d : Nat} (hd : 0 < d) : 0 < Nat.gcd m d := Nat.gcd_pos_of_pos_right m hd
theorem redD_pos {n : Int} {d : Nat} (hd : 0 < d) : 0 < redD n d := Nat.div_pos (Nat.le_of_dvd hd (Nat.gcd_dvd_right _ _)) (gcd_pos_right hd)
theorem red_coprime {n : Int} {d : Nat} (hd : 0 < d) : Nat.gcd (redN n d).natAbs (redD n d) = 1 := by
  rw [redN_abs, redD, Nat.gcd_div (Nat.gcd_dvd_left _ _) (Nat.gcd_dvd_right _ _)]
  exact Nat.div_self (gcd_pos_right hd)
theorem redR_ok {n : Int} {d : Nat} (hd : 0 < d) (h : redOk n d = true) : ratOk (redR n d) = true := by
  have h' := h
  simp only [redOk, Bool.and_eq_true, decide_eq_true_eq] at h'
  rw [redR, if_pos h]
  exact ratOk_rmk (redD_pos hd) (red_coprime hd) (by rw [redN_abs]; exact h'.1) h'.2
theorem redOk_small {n : Int} {d : Nat} (h1 : (digs n.natAbs).length <= 18) (h2 : (digs d).length <= 18) : redOk n d = true := by
  simp only [redOk, Bool.and_eq_true, decide_eq_true_eq]
  exact ⟨Nat.le_trans (digs_mono_len (Nat.div_le_self _ _)) h1, Nat.le_trans (digs_mono_len (Nat.div_le_self _ _)) h2⟩
theorem redR_small {n : Int} {d : Nat} (h1 : (digs n.natAbs).length <= 18) (h2 : (digs d).length <= 18) : redR n d = rmk (redN n d) (redD n d) := by rw [redR, if_pos (redOk_small h1 h2)]
theorem redN_len {n : Int} {d : Nat} : (digs (redN n d).natAbs).length <= (digs n.natAbs).length := by rw [redN_abs]; exact digs_mono_len (Nat.div_le_self _ _)
theorem redD_len {n : Int} {d : Nat} : (digs (redD n d)).length <= (digs d).length := digs_mono_len (Nat.div_le_self _ _)
def modeAway (m : Int) (neg : Bool) (half : Int) (odd : Bool) : Bool :=
 if m = 0 then false else if m = 1 then true else if m = 2 then neg else if m = 3 then !neg else if m = 4 then decide (0 < half) else if m = 5 then decide (0 <= half) else decide (0 < half) || (decide (half = 0) && odd)
def roundM (n : Int) (d : Nat) (m : Int) : Nat :=
 if n.natAbs % d ≠ 0 /\ modeAway m (decide (n < 0)) (cmpL (digs (n.natAbs % d + n.natAbs % d)) (digs d)) (decide (n.natAbs / d % 2 = 1)) = true then n.natAbs / d + 1 else n.natAbs / d
def rround (n : Int) (d : Nat) (m : Int) : Int := if n < 0 then -((roundM n d m : Nat) : Int) else ((roundM n d m : Nat) : Int)
theorem rround_abs (n : Int) (d : Nat) (m : Int) : (rround n d m).natAbs = roundM n d m := by unfold rround; split <;> omega
theorem roundM_le (n : Int) (d : Nat) (m : Int) : roundM n d m <= n.natAbs / d + 1 := by unfold roundM; split <;> omega
theorem even_head {q : Nat} : (digs q).length = 0 ∨ (digs q).getD 0 0 % 2 = 0 ↔ q % 2 = 0 := by
  rcases Nat.eq_zero_or_pos q with h | h
  · subst h; rw [digs_zero]; simp
  · rw [digs_pos (by omega)]
    simp
    omega
end Go.Proofs.YtbgokfhcgcoipaaGreat
namespace Go.Proofs.YtbgokfhcgcoipaaGreat
open Go Go.Proofs.YtbgokfhcgcoipaaGreat.Sx
theorem enc_nat (n : Nat) : enc (n : Int) = [.bool false, .ints (digs n)] := (mkS_pos n).symm
theorem enc_ok {z : Int} (h : (digs z.natAbs).length <= 50) : intOk (enc z) = true := by rw [<- icap_fit h]; exact icap_ok z
end Go.Proofs.YtbgokfhcgcoipaaGreat
namespace Go.Proofs.YtbgokfhcgcoipaaGreat
open Go Go.Proofs.YtbgokfhcgcoipaaGreat.Sx
theorem own_out {w : World} {B : Nat} {e : TypeId} {size : Nat} {p : Option Addr} {n c : Nat} {xs : List Value} (h : Own w B e size p n c xs) : ∀ b, p.map (·.block) = some b -> B <= b := fun b hb =>
  (World.ownsRow.lt h b (by cases p <;> simp_all [Value.ownBlock])).1
end Go.Proofs.YtbgokfhcgcoipaaGreat
namespace Go.Proofs.YtbgokfhcgcoipaaGreat
open Go Go.Proofs.YtbgokfhcgcoipaaGreat.Sx
theorem digs_pos_len {m : Nat} : 0 < (digs m).length ↔ m ≠ 0 := by
  constructor
  · intro h e
    rw [e, digs_zero] at h
    simp at h
  · intro h
    rw [digs_pos h]
    simp
theorem val_div (m k : Nat) : (val (digs m) / val (digs k)).toNat = m / k := by rw [val_digs, val_digs]; exact ediv_toNat m k
theorem val_mod (m k : Nat) : (val (digs m) % val (digs k)).toNat = m % k := by rw [val_digs, val_digs]; exact emod_toNat m k
end Go.Proofs.YtbgokfhcgcoipaaGreat
namespace Go.Proofs.YtbgokfhcgcoipaaGreat
open Go Go.Proofs.YtbgokfhcgcoipaaGreat.Sx
theorem agg_end {t : TypeId} {w W : World} {r : Nat} {e : TypeId} {old xs : List Value} {d : List D0} {f : List Nat} {B : Nat} (hb : Blk W r e old) (X : Ext w W) (hr : w.heap.size <= r)
    (ho : Owns W B xs d f) (ht : aggT P t xs.length = true) (hlen : xs.length = old.length) (hrB : r < B) (hwB : w.heap.size <= B) :
    ∃ W', Stores P t ⟨r, 0, none⟩ (.agg ⟨xs⟩) W W' /\ Loads P t ⟨r, 0, none⟩ (.agg ⟨xs⟩) W' /\ Owns W' w.heap.size xs d f /\ Ext w W' /\ Chg [r] W W' /\ Blk W' r e xs := by
  obtain ⟨W', st, hb', ch, _⟩ := hb.storeA0 (P := P) (t := t) (xs := xs) ht hlen ho.reps.cells1
  exact ⟨W', st, hb'.loadA0 ht, (ho.chg1 ch hrB).mono hwB, X.chg ch (by simp; exact hr), ch, hb'⟩
end Go.Proofs.YtbgokfhcgcoipaaGreat
namespace Go.Proofs.YtbgokfhcgcoipaaGreat
open Go Go.Proofs.YtbgokfhcgcoipaaGreat.Sx
theorem own_rat0 (W : World) (B : Nat) : Owns W B [.bool false, .slice none 0 0, .slice none 0 0] rat0 [] :=
  Owns.append (Owns.bool W B false) (Owns.append (Owns.ints (zs := []) (Own.nil W B T_int 1)) (Owns.ints (zs := []) (Own.nil W B T_int 1)))
theorem own_sgn0 (W : World) (B : Nat) : Owns W B [.bool false, .slice none 0 0] (enc 0) [] := by
  rw [enc0]
  exact Owns.append (Owns.bool W B false) (Owns.ints (zs := []) (Own.nil W B T_int 1))
theorem redR_no {n : Int} {d : Nat} (h : redOk n d = false) : redR n d = rat0 := by rw [redR, h]; rfl
theorem redR_yes {n : Int} {d : Nat} (h : redOk n d = true) : redR n d = rmk (redN n d) (redD n d) := by rw [redR, if_pos h]
theorem own_rmk {W : World} {B : Nat} {b : Bool} {p q : Option Addr} {n c m c2 : Nat} {N : Int} {D : Nat} {f : List Nat} (h : Owns W B [.bool b, .slice p n c] (enc N) f) (k : Own W B T_int 1 q m c2 ((digs D).map (Value.int .i64))) : Owns W B [.bool b, .slice p n c, .slice q m c2] (rmk N D) (f ++ (q.map (·.block)).toList) := by
  rw [rmk_enc]; exact Owns.append h (Owns.ints k)
theorem impl_reduce_c {w : World} {xs : List Value} {n : Int} {d : Nat} {p : Option Addr} {m c : Nat} (h : Reps w xs (enc n)) (k : IntsR w p m c (digs d)) (hd : 0 < d) (hl : (digs n.natAbs).length <= 1000) (hm : m <= 1000) :
    Ret P n_impl_reduce [.agg ⟨xs⟩, .slice p m c] w fun v w' => ∃ vs f, v = .tuple #[.agg ⟨vs⟩, .bool (redOk n d)] /\ Owns w' w.heap.size vs (redR n d) f /\ f.Nodup /\ Ext w w' := by
  obtain ⟨a0, ap, an, ac, az, rfl, hda, ha⟩ := open_Signed h (enc_code _)
  simp only [enc, List.cons.injEq, D0.bool.injEq, D0.ints.injEq, and_true] at hda
  obtain ⟨rfl, rfl⟩ := hda
  have hla := ha.1; have hlk := k.1
  refine impl_reduce_ret ?_
  unfold impl_reduce
  intro r w1 hn1 r1 w2 hn2
  have e1 := hn1.r_eq; have e2 := hn2.r_eq; have z1 := hn1.size; have z2 := hn2.size
  have X := hn1.ext.trans hn2.ext
  have q0 := hn1.blk.ext hn2.ext
  refine ⟨_, _, _, q0.loadAt 1 rfl (by kernel_rfl) rfl, ?_⟩
  refine Ret.at (impl_natGcd_c (ha.ext X) (k.ext X) (by omega) (by omega)) ?_
  rintro v w3 ⟨p3, n3, c3, hv, og, y3⟩
  subst hv
  have G := og.ints
  have gpos : 0 < Nat.gcd n.natAbs d := gcd_pos_right hd
  have lg := G.1
  have hg3 : 0 < n3 := by have := digs_pos_len.2 (show Nat.gcd n.natAbs d ≠ 0 by omega); omega
  have hg4 : n3 <= 1000 := by have := digs_mono_len (Nat.le_of_dvd hd (Nat.gcd_dvd_right n.natAbs d)); omega
  refine ⟨_, _, _, rfl, _, _, _, (q0.ext y3).loadAt 1 rfl (by kernel_rfl) rfl, ?_⟩
  refine Ret.at (impl_natDiv_c (ha.ext (X.trans y3)) G (digs_canon _) (digs_canon _) hg3 (by omega) (by omega)) ?_
  rintro v w4 ⟨p4, n4, c4, p5, n5, c5, hv, o4, _, _, y4⟩
  subst hv
  rw [val_div] at o4
  refine ⟨_, _, _, _, _, _, rfl, ?_⟩
  refine Ret.at (impl_natDiv_c (k.ext ((X.trans y3).trans y4)) (G.ext y4) (digs_canon _) (digs_canon _) hg3 (by omega) (by omega)) ?_
  rintro v w5 ⟨p6, n6, c6, p7, n7, c7, hv, o6, _, _, y5⟩
  subst hv
  rw [val_div] at o6
  have l4 := o4.ints.1; have l6 := o6.ints.1
  have Y := y3.trans (y4.trans y5)
  have q0 := q0.ext Y; have q1 := hn2.blk.ext Y
  have ly3 := y3.le; have ly4 := y4.le; have ly5 := y5.le
  have hok : redOk n d = (decide (n4 <= 18) && decide (n6 <= 18)) := by rw [redOk, l4, l6]
  have bad : redOk n d = false -> ∃ W', Stores P T_impl_Rat ⟨r1, 0, none⟩ (.agg ⟨[.bool false, .slice none 0 0, .slice none 0 0]⟩) w5 W' /\ Loads P T_impl_Rat ⟨r1, 0, none⟩ (.agg ⟨[.bool false, .slice none 0 0, .slice none 0 0]⟩) W' /\ Owns W' w.heap.size [.bool false, .slice none 0 0, .slice none 0 0] (redR n d) [] /\ Ext w W' := fun hno => by
    obtain ⟨W', st, ld, ow, xx, _, _⟩ := agg_end (t := T_impl_Rat) q1 (X.trans Y) (by omega) (own_rat0 w5 (r1 + 1)) (by kernel_rfl) rfl (by omega) (by omega)
    exact ⟨W', st, ld, by rw [redR_no hno]; exact ow, xx⟩
  refine ⟨_, _, _, _, _, _, rfl, ifD (fun h4 => ifT ?_) (fun h4 => ifD (fun h6 => ?_) (fun h6 => ?_))⟩
  · have hno : redOk n d = false := by rw [hok, decide_eq_false (by omega)]; rfl
    obtain ⟨W', st, ld, ow, xx⟩ := bad hno
    exact ⟨W', st, _, _, _, _, _, _, _, ld, _, [], by rw [hno], ow, List.nodup_nil, xx⟩
  · have hno : redOk n d = false := by rw [hok, decide_eq_false (show ¬ n6 <= 18 by omega), Bool.and_false]
    obtain ⟨W', st, ld, ow, xx⟩ := bad hno
    exact ⟨W', st, _, _, _, _, _, _, _, ld, _, [], by rw [hno], ow, List.nodup_nil, xx⟩
  · have hyes : redOk n d = true := by rw [hok, decide_eq_true (show n4 <= 18 by omega), decide_eq_true (show n6 <= 18 by omega)]; rfl
    refine ⟨_, q0.loadAt 0 rfl (by kernel_rfl) rfl, ?_⟩
    refine Ret.at (impl_signed_c (neg := decide (n < 0)) (o4.ext y5).ints.1) ?_
    rintro v w6 ⟨hv, y6⟩
    subst hv
    have ho : Owns w6 w3.heap.size [.bool (decide (n < 0) && !(digs (n.natAbs / Nat.gcd n.natAbs d)).isEmpty), .slice p4 n4 c4] (enc (redN n d)) (p4.map (·.block)).toList := by
      rw [enc_redN]
      exact Owns.int2 ((o4.ext y5).ext y6)
    have hr := own_rmk ho ((o6.mono (show w3.heap.size <= w4.heap.size by omega)).ext y6)
    obtain ⟨W', st, ld, ow, xx, _, _⟩ := agg_end (t := T_impl_Rat) (q1.ext y6) ((X.trans Y).trans y6) (by omega) hr (by kernel_rfl) rfl (by omega) (by omega)
    refine ⟨_, _, _, _, rfl, W', st, _, _, _, _, _, _, _, ld, _, _, by rw [hyes], by rw [redR_yes hyes]; exact ow, ?_, xx⟩
    exact nodup_append (nodup_opt p4) (nodup_opt p6) (m := w4.heap.size) (fun q hq => (ho.lt q hq).2 |> fun _ => (World.ownsRow.lt o4 q (by cases p4 <;> simp_all [Value.ownBlock])).2) (fun q hq => (World.ownsRow.lt o6 q (by cases p6 <;> simp_all [Value.ownBlock])).1)
theorem spec_l05Gcd_c {w : World} {p q : Option Addr} {n c m d : Nat} {x y : Nat} (h : IntsR w p n c (digs x)) (k : IntsR w q m d (digs y)) (hn : n <= 1000) (hm : m <= 1000) :
    Ret P n_spec_l05Gcd [.slice p n c, .slice q m d] w fun v w' => ∃ p' n' c', v = .slice p' n' c' /\ IntsR w' p' n' c' (digs (Nat.gcd x y)) /\ Ext w w' := by
  refine spec_l05Gcd_ret ?_
  unfold spec_l05Gcd
  obtain ⟨f, hf⟩ := numAt_ex
  refine ⟨fun ap an ac bp bn bc wr => ∃ s t, IntsR wr ap an ac (digs s) /\ IntsR wr bp bn bc (digs t) /\ an <= 100000 /\ bn <= 100000 /\ Ext w wr /\ Nat.gcd s t = Nat.gcd x y, fun _ _ _ bp bn bc W => f W bp bn bc, ⟨x, y, h, k, by omega, by omega, Ext.refl _, rfl⟩, ?_⟩
  intro junk wr ap an ac bp bn bc ⟨s, t, ha, hb, han, hbn, hx, hg⟩
  have hbl := hb.1
  refine ifD (fun hlt => ?_) (fun hge => ?_)
  · have ht : 0 < t := by
      rcases Nat.eq_zero_or_pos t with e | e
      · subst e; rw [digs_zero] at hbl; simp at hbl; omega
      · exact e
    refine Ret.at (spec_l03Div_c ha hb (digs_limbs _) (digs_canon _) (by omega) han hbn) ?_
    rintro v w1 ⟨p1, n1, c1, p2, n2, c2, hv, o1, o2, y1⟩
    subst hv
    rw [val_mod] at o2
    have hn2 : n2 <= bn := by
      have := o2.1
      have := digs_mod_len (x := s) ht
      omega
    refine ⟨_, _, _, _, _, _, rfl, ⟨t, s % t, hb.ext y1, o2, hbn, by omega, hx.trans y1, by rw [gcd_step, hg]⟩, ?_⟩
    show f w1 p2 n2 c2 < f wr bp bn bc
    rw [hf _ _ _ _ _ o2, hf _ _ _ _ _ hb]
    exact Nat.mod_lt _ ht
  · have ht : t = 0 := by
      have : bn = 0 := by omega
      rw [this] at hbl
      exact digs_nil.1 (List.eq_nil_of_length_eq_zero hbl)
    subst ht
    rw [Nat.gcd_zero_right] at hg
    subst hg
    exact ⟨_, _, _, rfl, ha, hx⟩
theorem spec_l05Low_c {w : World} {neg : Bool} {n : Int} {d : Nat} {p q : Option Addr} {m c m2 c2 : Nat} (h : IntsR w p m c (digs n.natAbs)) (k : IntsR w q m2 c2 (digs d)) (hneg : n ≠ 0 -> neg = decide (n < 0)) (hd : 0 < d) (hl : m <= 1000) (hm : m2 <= 1000) :
    Ret P n_spec_l05Low [.bool neg, .slice p m c, .slice q m2 c2] w fun v w' => ∃ vs f, v = .tuple #[.agg ⟨vs⟩, .bool (redOk n d)] /\ Owns w' w.heap.size vs (redR n d) f /\ f.Nodup /\ Ext w w' := by
  have hla := h.1; have hlk := k.1
  refine spec_l05Low_ret ?_
  unfold spec_l05Low
  intro r w1 hn1
  have e1 := hn1.r_eq; have z1 := hn1.size
  refine Ret.at (spec_l02Trim_c (h.ext hn1.ext)) ?_
  rintro v w2 ⟨hv, hw, ht⟩
  subst hv; subst hw
  rw [trimL_eq (digs_limbs _), val_digs, Int.toNat_natCast] at ht ⊢
  refine ⟨_, _, _, rfl, ?_⟩
  refine Ret.at (spec_l02Trim_c (k.ext hn1.ext)) ?_
  rintro v w3 ⟨hv, hw, kt⟩
  subst hv; subst hw
  rw [trimL_eq (digs_limbs _), val_digs, Int.toNat_natCast] at kt ⊢
  have hd0 := digs_pos_len.2 (show d ≠ 0 by omega)
  refine ⟨_, _, _, rfl, ifD (fun hh => absurd hh (by omega)) (fun _ => ?_)⟩
  refine Ret.at (spec_l05Gcd_c ht kt (by omega) (by omega)) ?_
  rintro v w4 ⟨p4, n4, c4, hv, G, y4⟩
  subst hv
  have gpos : 0 < Nat.gcd n.natAbs d := gcd_pos_right hd
  have lg := G.1
  have hg3 : 0 < n4 := by have := digs_pos_len.2 (show Nat.gcd n.natAbs d ≠ 0 by omega); omega
  have hg4 : n4 <= 1000 := by have := digs_mono_len (Nat.le_of_dvd hd (Nat.gcd_dvd_right n.natAbs d)); omega
  refine ⟨_, _, _, rfl, ?_⟩
  refine Ret.at (spec_l03Div_c (ht.ext y4) G (digs_limbs _) (digs_canon _) hg3 (by omega) (by omega)) ?_
  rintro v w5 ⟨p5, n5, c5, p6, n6, c6, hv, i5, _, y5⟩
  subst hv
  rw [val_div] at i5
  refine ⟨_, _, _, _, _, _, rfl, ?_⟩
  refine Ret.at (spec_l03Div_c (kt.ext (y4.trans y5)) (G.ext y5) (digs_limbs _) (digs_canon _) hg3 (by omega) (by omega)) ?_
  rintro v w6 ⟨p7, n7, c7, p8, n8, c8, hv, i7, _, y6⟩
  subst hv
  rw [val_div] at i7
  have Y := (y4.trans y5).trans y6
  have q1 := hn1.blk.ext Y
  have X := hn1.ext.trans Y
  have lY := Y.le
  have l5 := i5.1; have l7 := i7.1
  have hok : redOk n d = (decide (n5 <= 18) && decide (n7 <= 18)) := by rw [redOk, l5, l7]
  have bad : redOk n d = false -> ∃ W', Stores P T_impl_Rat ⟨r, 0, none⟩ (.agg ⟨[.bool false, .slice none 0 0, .slice none 0 0]⟩) w6 W' /\ Loads P T_impl_Rat ⟨r, 0, none⟩ (.agg ⟨[.bool false, .slice none 0 0, .slice none 0 0]⟩) W' /\ Owns W' w.heap.size [.bool false, .slice none 0 0, .slice none 0 0] (redR n d) [] /\ Ext w W' := fun hno => by
    obtain ⟨W', st, ld, ow, xx, _, _⟩ := agg_end (t := T_impl_Rat) q1 X (by omega) (own_rat0 w6 (r + 1)) (by kernel_rfl) rfl (by omega) (by omega)
    exact ⟨W', st, ld, by rw [redR_no hno]; exact ow, xx⟩
  refine ⟨_, _, _, _, _, _, rfl, ifD (fun h4 => ifT ?_) (fun h4 => ifD (fun h6 => ?_) (fun h6 => ?_))⟩
  · have hno : redOk n d = false := by rw [hok, decide_eq_false (by omega)]; rfl
    obtain ⟨W', st, ld, ow, xx⟩ := bad hno
    exact ⟨W', st, _, _, _, _, _, _, _, ld, _, [], by rw [hno], ow, List.nodup_nil, xx⟩
  · have hno : redOk n d = false := by rw [hok, decide_eq_false (show ¬ n7 <= 18 by omega), Bool.and_false]
    obtain ⟨W', st, ld, ow, xx⟩ := bad hno
    exact ⟨W', st, _, _, _, _, _, _, _, ld, _, [], by rw [hno], ow, List.nodup_nil, xx⟩
  · have hyes : redOk n d = true := by rw [hok, decide_eq_true (show n5 <= 18 by omega), decide_eq_true (show n7 <= 18 by omega)]; rfl
    refine Ret.at (spec_l04Make_c (i5.ext y6) (digs_limbs _)) ?_
    rintro v w7 ⟨b7, p9, n9, c9, hv, hb7, o9, y7⟩
    subst hv
    rw [val_digs, Int.toNat_natCast] at hb7 o9
    have ecap : capL (digs (n.natAbs / Nat.gcd n.natAbs d)) = digs (n.natAbs / Nat.gcd n.natAbs d) := by unfold capL; rw [if_pos (by omega)]
    rw [ecap] at hb7 o9
    have ho : Owns w7 w6.heap.size [.bool b7, .slice p9 n9 c9] (enc (redN n d)) (p9.map (·.block)).toList := by
      have e : enc (redN n d) = mkS neg (digs (n.natAbs / Nat.gcd n.natAbs d)) := by
        by_cases hn : n = 0
        · subst hn
          rw [enc_redN]
          simp [mkS, digs_zero]
        · rw [enc_redN, hneg hn]
      rw [e]
      have := Owns.int2 (b := b7) o9
      rw [hb7] at this
      rw [hb7]
      exact this
    refine ⟨_, _, _, _, rfl, ?_⟩
    intro r8 w8 hn8
    obtain ⟨p10, c10, w10, ap10, o10, x10⟩ := append0 hn8.blk ((i7.ext y7).ext hn8.ext) (by omega)
    have e8 := hn8.r_eq; have z8 := hn8.size; have ly7 := y7.le; have ly6 := y6.le
    have y10 : Ext w8 w10 := x10
    have hr := own_rmk ((ho.ext hn8.ext).ext y10) (o10.mono (show w6.heap.size <= r8 by omega))
    obtain ⟨W', st, ld, ow, xx, _, _⟩ := agg_end (t := T_impl_Rat) (((q1.ext y7).ext hn8.ext).ext y10) (((X.trans y7).trans hn8.ext).trans y10) (by omega) hr (by kernel_rfl) rfl (by omega) (by omega)
    refine ⟨_, _, _, _, ap10, W', st, _, _, _, _, _, _, _, ld, _, _, by rw [hyes], by rw [redR_yes hyes]; exact ow, ?_, xx⟩
    exact nodup_append (nodup_opt p9) (nodup_opt p10) (m := w7.heap.size) (fun q hq => (ho.lt q hq).2) (fun q hq => by
      have := own_out o10 q (opt_mem hq)
      omega)
end Go.Proofs.YtbgokfhcgcoipaaGreat
namespace Go.Proofs.YtbgokfhcgcoipaaGreat
open Go Go.Proofs.YtbgokfhcgcoipaaGreat.Sx
theorem rmk_open {w : World} {vs : List Value} {N : Int} {D : Nat} (h : Reps w vs (rmk N D)) (hok : ratOk (rmk N D) = true) :
    ∃ p1 n1 c1 p2 n2 c2, vs = [.bool (decide (N < 0)), .slice p1 n1 c1, .slice p2 n2 c2] /\ IntsR w p1 n1 c1 (digs N.natAbs) /\ IntsR w p2 n2 c2 (digs D) /\ n1 <= 18 /\ n2 <= 18 /\ Reps w [.bool (decide (N < 0)), .slice p1 n1 c1] (enc N) /\ 0 < D := by
  have := rat_parts h (rmk_code N D) hok
  have k := (ratOk_enc hok).2.1
  rw [ratNum_rmk, ratDen_rmk] at this
  rw [ratDen_rmk] at k
  obtain ⟨p1, n1, c1, p2, n2, c2, a, b, c, d, e, f⟩ := this
  exact ⟨p1, n1, c1, p2, n2, c2, a, b, c, d, e, f, k⟩
theorem mkS_of {b : Bool} {m : Nat} {z : Int} (hm : m = z.natAbs) (hb : z ≠ 0 -> b = decide (z < 0)) : mkS b (digs m) = enc z := by
  by_cases hz : z = 0
  · subst hz; subst hm; simp [mkS, enc, digs_zero]
  · rw [hb hz, hm]
    unfold mkS enc
    rw [isEmpty_digs]
    have : z.natAbs ≠ 0 := by omega
    simp [this]
theorem val_mul (m k : Nat) : (val (digs m) * val (digs k)).toNat = m * k := by rw [val_digs, val_digs, <- Int.natCast_mul, Int.toNat_natCast]
theorem natCast_enc (k : Nat) : enc (k : Int) = [.bool false, .ints (digs k)] := enc_nat k
theorem own_int {W : World} {B : Nat} {b : Bool} {p : Option Addr} {n c m : Nat} {z : Int} (h : Own W B T_int 1 p n c ((digs m).map (Value.int .i64))) (hm : m = z.natAbs) (hb : z ≠ 0 -> b = decide (z < 0)) :
    Owns W B [.bool (b && !(digs m).isEmpty), .slice p n c] (enc z) (p.map (·.block)).toList := by
  rw [<- mkS_of hm hb]
  exact Owns.int2 h
def FlSt (o : Obj) (w0 : World) (ss : List (Option Nat)) (w : World) : Prop := Ext w0 w /\ (ss = [none] ∨ ∃ r, ss = [some r] /\ w0.heap.size <= r /\ w.heap[r]? = some o)
theorem FlSt.start {o : Obj} (w0 : World) : FlSt o w0 [none] w0 := ⟨Ext.refl _, .inl rfl⟩
theorem FlSt.ext {o : Obj} {w0 w w' : World} {ss : List (Option Nat)} (h : FlSt o w0 ss w) (y : Ext w w') : FlSt o w0 ss w' := by
  refine ⟨h.1.trans y, ?_⟩
  rcases h.2 with h2 | ⟨r, h2, h3, h4⟩
  · exact .inl h2
  · exact .inr ⟨r, h2, h3, (y.block r (Array.getElem?_eq_some_iff.1 h4).1).trans h4⟩
theorem FlSt.step {o : Obj} {w0 w w' : World} {ss ss' : List (Option Nat)} (h : FlSt o w0 ss w) (f : Fl [o] ss w ss' w') : FlSt o w0 ss' w' := by
  refine ⟨h.1.trans f.ext, ?_⟩
  have hl := f.len
  rcases h.2 with h2 | ⟨r, h2, h3, h4⟩
  · subst h2
    match ss', hl, f with
    | [none], _, _ => exact .inl rfl
    | [some r], _, f =>
      obtain ⟨a, b⟩ := f.got (k := 0) rfl rfl rfl
      exact .inr ⟨r, rfl, Nat.le_trans h.1.le a, b⟩
    | [], hl, _ => simp at hl
    | _ :: _ :: _, hl, _ => simp at hl
  · subst h2
    have hk := f.keeps (k := 0) (r := r) rfl
    match ss', hl, hk with
    | [x], _, hk =>
      simp at hk
      subst hk
      exact .inr ⟨r, rfl, h3, (f.ext.block r (Array.getElem?_eq_some_iff.1 h4).1).trans h4⟩
    | [], hl, _ => simp at hl
    | _ :: _ :: _, hl, _ => simp at hl
theorem FlSt.get {o : Obj} {w0 w : World} {ss : List (Option Nat)} {r : Nat} (h : FlSt o w0 ss w) (hr : ss[0]? = some (some r)) : w0.heap.size <= r /\ w.heap[r]? = some o := by
  rcases h.2 with h2 | ⟨r', h2, h3, h4⟩
  · subst h2; simp at hr
  · subst h2
    simp at hr
    subst hr
    exact ⟨h3, h4⟩
theorem spec_RatMake_n {w : World} {xs ys : List Value} {x : Int} {k : Nat} (h : Reps w xs (enc x)) (g : Reps w ys (enc (k : Int))) (hx : (digs x.natAbs).length <= 50) (hk : (digs k).length <= 50) (hk0 : 0 < k) :
    Ret P n_spec_RatMake [.agg ⟨xs⟩, .agg ⟨ys⟩] w fun v w' => ∃ vs f, v = .tuple #[.agg ⟨vs⟩, .bool (redOk (x) (k))] /\ Owns w' w.heap.size vs (redR (x) (k)) f /\ f.Nodup /\ Ext w w' := by
  have hr := h; have gr := g
  obtain ⟨a0, p1, n1, c1, az, rfl, hd, i1⟩ := open_Signed h (enc_code _)
  simp only [enc, List.cons.injEq, D0.bool.injEq, D0.ints.injEq, and_true] at hd
  obtain ⟨rfl, rfl⟩ := hd
  rw [natCast_enc] at g
  obtain ⟨b0, p2, n2, c2, bz, rfl, hd, j1⟩ := open_Signed g rfl
  simp only [List.cons.injEq, D0.bool.injEq, D0.ints.injEq, and_true] at hd
  obtain ⟨rfl, rfl⟩ := hd
  have ei1 := i1.1; have ej1 := j1.1
  have ok1 : intOk (enc x) = true := enc_ok hx
  have ok2 : intOk (enc (k : Int)) = true := enc_ok (by rw [Int.natAbs_natCast]; exact hk)
  have hk1 := digs_pos_len.2 (show k ≠ 0 by omega)
  have sg : x ≠ 0 -> (!(decide (x < 0) == false)) = decide (x < 0) := fun _ => by cases decide (x < 0) <;> rfl
  refine spec_RatMake_ret ?_
  unfold spec_RatMake
  intro r w1 hn1 r1 w2 hn2 r2 w3 hn3
  have e1 := hn1.r_eq; have e2 := hn2.r_eq; have e3 := hn3.r_eq; have z1 := hn1.size; have z2 := hn2.size; have z3 := hn3.size
  have X := (hn1.ext.trans hn2.ext).trans hn3.ext
  have b0 := (hn1.blk.ext hn2.ext).ext hn3.ext; have b1 := hn2.blk.ext hn3.ext; have b2 := hn3.blk
  refine ⟨_, _, _, _, b0.loadA0 (by kernel_rfl), ?_⟩
  refine Ret.at (spec_IntOk_c (hr.ext X) (enc_code _)) ?_
  rintro v w4 ⟨hv, y4⟩
  subst hv
  rw [ok1]
  refine ⟨_, rfl, ifN (fun hh => absurd hh (by simp)) (fun _ => ⟨_, _, _, _, (b1.ext y4).loadA0 (by kernel_rfl), ?_⟩)⟩
  refine Ret.at (spec_IntOk_c (gr.ext (X.trans y4)) (enc_code _)) ?_
  rintro v w5 ⟨hv, y5⟩
  subst hv
  rw [ok2]
  refine ⟨_, rfl, ifN (fun hh => absurd hh (by simp)) (fun _ => ?_)⟩
  unfold spec_RatMake_j0
  have Y := y4.trans y5
  have X4 := X.trans Y
  have lY := Y.le
  have b0 := b0.ext Y; have b1 := b1.ext Y; have b2 := b2.ext Y
  refine ⟨_, b0.loadAt 0 rfl (by kernel_rfl) rfl, _, b1.loadAt 0 rfl (by kernel_rfl) rfl, _, _, _, b0.loadAt 1 rfl (by kernel_rfl) rfl, _, _, _, b1.loadAt 1 rfl (by kernel_rfl) rfl, ?_⟩
  refine Ret.at (spec_l05Low_c (n := x) (i1.ext X4) (j1.ext X4) sg hk0 (by omega) (by omega)) ?_
  rintro v w99 ⟨vs9, f9, hv, ho9, nd9, y99⟩
  subst hv
  obtain ⟨zb, zp, zn, zc, zz, zp2, zn2, zc2, zz2, rfl, _, _, _⟩ := open_Rat ho9.reps (redR_code _ _)
  obtain ⟨W', st', ld', ow', xx', _, _⟩ := agg_end (t := T_impl_Rat) ((b2).ext y99) ((X4).trans y99) (by omega) ho9 (by kernel_rfl) rfl (by omega) (by omega)
  exact ⟨_, _, _, _, _, _, _, _, rfl, W', st', _, _, _, _, _, _, _, ld', _, f9, rfl, ow', nd9, xx'⟩
  
theorem spec_RatInt_n {w : World} {xs : List Value} {x : Int} (h : Reps w xs (enc x)) (hx : (digs x.natAbs).length <= 50) :
    Ret P n_spec_RatInt [.agg ⟨xs⟩] w fun v w' => ∃ vs f, v = .tuple #[.agg ⟨vs⟩, .bool (redOk (x) (1))] /\ Owns w' w.heap.size vs (redR (x) (1)) f /\ f.Nodup /\ Ext w w' := by
  have hr := h
  obtain ⟨a0, p1, n1, c1, az, rfl, hd, i1⟩ := open_Signed h (enc_code _)
  refine spec_RatInt_ret ?_
  unfold spec_RatInt
  intro r w1 hn1 r1 w2 hn2
  have e1 := hn1.r_eq; have e2 := hn2.r_eq; have z1 := hn1.size; have z2 := hn2.size
  have D := Ext.drew w2
  have lD := D.le
  have X := (hn1.ext.trans hn2.ext).trans D
  have b0 := (hn1.blk.ext hn2.ext).ext D; have b1 := hn2.blk.ext D
  refine ⟨_, _, _, _, fun W hW => (b0.ext hW).loadA0 (by kernel_rfl), ?_⟩
  refine Ret.at (spec_IntOf_c (n := 1) (by omega) (by omega)) ?_
  rintro v w3 ⟨vs3, f3, hv, ho3, _, y3⟩
  subst hv
  obtain ⟨s0, sp, sn, sc, sz, rfl, _, _⟩ := open_Signed ho3.reps (enc_code _)
  have l3 := y3.le
  refine ⟨_, _, _, _, rfl, y3, ?_⟩
  refine Ret.at (spec_RatMake_n (k := 1) (hr.ext (X.trans y3)) ho3.reps hx (by rw [digs_one]; decide) (by decide)) ?_
  rintro v w99 ⟨vs9, f9, hv, ho9, nd9, y99⟩
  subst hv
  obtain ⟨zb, zp, zn, zc, zz, zp2, zn2, zc2, zz2, rfl, _, _, _⟩ := open_Rat ho9.reps (redR_code _ _)
  obtain ⟨W', st', ld', ow', xx', _, _⟩ := agg_end (t := T_impl_Rat) ((b1.ext y3).ext y99) ((X.trans y3).trans y99) (by omega) ho9 (by kernel_rfl) rfl (by omega) (by omega)
  exact ⟨_, _, _, _, _, _, _, _, rfl, W', st', _, _, _, _, _, _, _, ld', _, f9, rfl, ow', nd9, xx'⟩
  
end Go.Proofs.YtbgokfhcgcoipaaGreat
namespace Go.Proofs.YtbgokfhcgcoipaaGreat
open Go Go.Proofs.YtbgokfhcgcoipaaGreat.Sx
abbrev CurRow := ByteArray × ByteArray × Int × Int
def implTab : List CurRow := [(S [67, 72, 70], S [55, 53, 54], 2, 5), (S [69, 85, 82], S [57, 55, 56], 2, 1), (S [85, 83, 68], S [56, 52, 48], 2, 1), (S [71, 66, 80], S [56, 50, 54], 2, 1), (S [74, 80, 89], S [51, 57, 50], 0, 1), (S [83, 69, 75], S [55, 53, 50], 2, 100), (S [78, 79, 75], S [53, 55, 56], 2, 100), (S [68, 75, 75], S [50, 48, 56], 2, 50), (S [67, 90, 75], S [50, 48, 51], 2, 100), (S [72, 85, 70], S [51, 52, 56], 2, 500), (S [80, 76, 78], S [57, 56, 53], 2, 1), (S [67, 65, 68], S [49, 50, 52], 2, 5), (S [65, 85, 68], S [48, 51, 54], 2, 5), (S [78, 90, 68], S [53, 53, 52], 2, 10), (S [75, 87, 68], S [52, 49, 52], 3, 5), (S [66, 72, 68], S [48, 52, 56], 3, 5), (S [84, 78, 68], S [55, 56, 56], 3, 10), (S [73, 83, 75], S [51, 53, 50], 0, 1), (S [75, 82, 87], S [52, 49, 48], 0, 10), (S [67, 76, 70], S [57, 57, 48], 4, 1)]
end Go.Proofs.YtbgokfhcgcoipaaGreat
namespace Go.Proofs.YtbgokfhcgcoipaaGreat
open Go Go.Proofs.YtbgokfhcgcoipaaGreat.Sx
def curCells (r : CurRow) : List Value := [.string r.1, .string r.2.1, .int .i64 r.2.2.1, .int .i64 r.2.2.2]
def Tab (w : World) : Prop := Seg w 0 0 (implTab.flatMap curCells)
theorem Tab.ext {w w' : World} (h : Tab w) (he : Ext w w') : Tab w' := Seg.ext h he
end Go.Proofs.YtbgokfhcgcoipaaGreat
namespace Go.Proofs.YtbgokfhcgcoipaaGreat
open Go Go.Proofs.YtbgokfhcgcoipaaGreat.Sx
theorem laws_markIntS_c {w : World} {B : Nat} {p : Option Addr} {n c : Nat} {zs : List Int} {k : Int} (h : Own w B T_int 1 p n c (zs.map (Value.int .i64))) (h0 : 0 <= k) (h1 : k + n <= 9223372036854775807) :
    Ret P n_laws_markIntS [.slice p n c, .int .i64 k] w fun v w' => v = .int .i64 (k + n) /\ Own w' B T_int 1 p n c ((mkI n k).map (Value.int .i64)) /\ Chg (p.map (·.block)).toList w w' := by
  have hz : zs.length = n := by have := h.len; simpa using this
  have hcap := h.le
  refine laws_markIntS_ret ?_
  unfold laws_markIntS
  refine ⟨fun k1 i wr => ∃ j : Nat, i = j /\ j <= n /\ k1 = k + j /\ Own wr B T_int 1 p n c ((mkI j k ++ zs.drop j).map (Value.int .i64)) /\ Chg (p.map (·.block)).toList w wr, fun _ i _ => n - i.toNat, ⟨0, rfl, by omega, by omega, by simpa [mkI] using h, Chg.refl _ _⟩, ?_⟩
  intro junk wr k1 i ⟨j, hij, hj, hk1, ho, hch⟩
  subst hij; subst hk1
  refine ifD (fun hlt => ?_) (fun hge => ?_)
  · obtain ⟨b, w2, hp, st, ho2, ch2, sz2⟩ := ho.set (P := P) (t := T_int) (i := j) (v := .int .i64 (k + j)) (by simp [mkI_len]; omega) (by kernel_rfl) rfl
    subst hp
    refine ⟨⟨by omega, by omega⟩, w2, by simpa using st, exW ⟨by omega, by omega⟩ (exW ⟨by omega, by omega⟩ ⟨⟨j + 1, by omega, by omega, by omega, ?_, hch.trans ch2⟩, ?_⟩)⟩
    · have e : (mkI j k ++ zs.drop j).set j (k + (j : Nat)) = mkI (j + 1) k ++ zs.drop (j + 1) := by
        rw [List.set_append_right _ _ (by rw [mkI_len]; omega), mkI_len, Nat.sub_self, mkI_succ, List.drop_eq_getElem_cons (show j < zs.length by omega), List.set_cons_zero, List.append_assoc]
        rfl
      rw [<- e, List.map_set]
      exact ho2
    · show n - ((j : Int) + 1).toNat < n - (j : Int).toNat
      omega
  · have hjn : j = n := by omega
    subst hjn
    rw [List.drop_of_length_le (by omega), List.append_nil] at ho
    exact ⟨rfl, ho, hch⟩
theorem laws_heldIntS_c {w : World} {p : Option Addr} {n c : Nat} {k : Int} (h : IntsR w p n c (mkI n k)) (h0 : 0 <= k) (h1 : k + n <= 9223372036854775807) :
    Ret P n_laws_heldIntS [.slice p n c, .int .i64 k] w fun v w' => v = .int .i64 (k + n) /\ Ext w w' := by
  have hcap := h.2.1; have hcm := h.2.2.1
  refine laws_heldIntS_ret ?_
  unfold laws_heldIntS
  refine ⟨fun k1 i wr => ∃ j : Nat, i = j /\ j <= n /\ k1 = k + j /\ Ext w wr, fun _ i _ => n - i.toNat, ⟨0, rfl, by omega, by omega, Ext.refl _⟩, ?_⟩
  intro junk wr k1 i ⟨j, hij, hj, hk1, hx⟩
  subst hij; subst hk1
  refine ifD (fun hlt => ?_) (fun hge => ?_)
  · have hjn : j < n := by omega
    obtain ⟨a, hpa, hl⟩ := (h.ext hx).at (P := P) (t := T_int) (by kernel_rfl) hjn
    subst hpa
    rw [mkI_get] at hl
    refine ⟨⟨by omega, by omega⟩, k + (j : Nat), by simpa using hl, ifD (fun hne => absurd rfl hne) (fun _ => exW ⟨by omega, by omega⟩ (exW ⟨by omega, by omega⟩ ⟨⟨j + 1, by omega, by omega, by omega, hx⟩, ?_⟩))⟩
    show n - ((j : Int) + 1).toNat < n - (j : Int).toNat
    omega
  · have hjn : j = n := by omega
    subst hjn
    exact ⟨rfl, hx⟩
theorem bne_no {a b : Bool} (e : a = b) : ¬ (!(a == b)) = true := by subst e; simp
end Go.Proofs.YtbgokfhcgcoipaaGreat
namespace Go.Proofs.YtbgokfhcgcoipaaGreat
open Go Go.Proofs.YtbgokfhcgcoipaaGreat.Sx
theorem cntL_nn {d : List (List D0)} {m : Int} (_ : cntL d <= m) : 0 <= cntL d := cntL_nonneg d
theorem opt_nil {p : Option Addr} {q : Nat} (h : q ∈ (p.map (·.block)).toList) : q ∈ (p.map (·.block)).toList ++ ([] : List Nat) := List.mem_append_left _ h
theorem laws_markSigned_c {w : World} {B : Nat} {vs : List Value} {ds : List D0} {f : List Nat} {k : Int} (h : Owns w B vs ds f) (nd : f.Nodup) (hc : ds.map D0.code = [.bool, .ints]) (h0 : 0 <= k) (h1 : k + tcnts ds <= 1000000000000000000) :
    Ret P n_laws_markSigned [.agg ⟨vs⟩, .int .i64 k] w fun v w' => v = .int .i64 (k + tcnts ds) /\ Owns w' B vs (tmarks ds k) f /\ Chg f w w' := by
  obtain ⟨b, us, es, rfl, rfl, h2, hc2⟩ := h.consBool hc
  obtain ⟨p, n, c, z, us, es, f2, rfl, rfl, rfl, o, h3, hc3⟩ := h2.consInts hc2
  obtain ⟨rfl, rfl, rfl⟩ := h3.done hc3
  have hz : z.length = n := by have := o.len; simpa using this
  simp only [tcnts] at h1 ⊢
  refine laws_markSigned_ret ?_
  unfold laws_markSigned
  intro r w1 hn
  refine ⟨_, _, _, hn.blk.loadAt 1 rfl (by kernel_rfl) rfl, ?_⟩
  refine Ret.at (laws_markIntS_c (o.ext hn.ext) h0 (by omega)) ?_
  rintro v w2 ⟨hv, o2, ch⟩
  subst hv
  refine ⟨_, rfl, by rw [hz, Int.add_zero], ?_, hn.ext.toChg.trans (ch.mono fun q hq => opt_nil hq)⟩
  simp only [tmarks, hz]
  exact Owns.append (Owns.bool _ _ b) (Owns.append (Owns.ints o2) (Owns.nil _ _))
end Go.Proofs.YtbgokfhcgcoipaaGreat
namespace Go.Proofs.YtbgokfhcgcoipaaGreat
open Go Go.Proofs.YtbgokfhcgcoipaaGreat.Sx
theorem spec_IntNeg_c {w : World} {xs : List Value} {z : Int} (h : Reps w xs (enc z)) (hok : intOk (enc z) = true) :
    Ret P n_spec_IntNeg [.agg ⟨xs⟩] w fun v w' => ∃ vs' f, v = .agg ⟨vs'⟩ /\ Owns w' w.heap.size vs' (enc (-z)) f /\ f.Nodup /\ Ext w w' := by
  have hr := h
  obtain ⟨a0, a1p, a1n, a1c, a1z, rfl, hd, ha⟩ := open_Signed h (enc_code _)
  simp only [enc, List.cons.injEq, D0.bool.injEq, D0.ints.injEq, and_true] at hd
  obtain ⟨rfl, rfl⟩ := hd
  have hlen : (digs z.natAbs).length <= 50 := by
    obtain ⟨_, _, _, h1, hc, hl⟩ := intOk_enc hok
    simp only [enc, List.cons.injEq, D0.bool.injEq, D0.ints.injEq, and_true] at h1
    rw [h1.2]; exact hl
  refine spec_IntNeg_ret ?_
  unfold spec_IntNeg
  intro r w1 hn1 r1 w2 hn2
  have X := hn1.ext.trans hn2.ext
  have e1 := hn1.r_eq; have e2 := hn2.r_eq; have s1 := hn1.size; have s2 := hn2.size
  refine ⟨_, _, _, _, (hn1.blk.ext hn2.ext).loadA0 (by kernel_rfl), ?_⟩
  refine Ret.at (spec_IntOk_c (hr.ext X) rfl) ?_
  rintro v w3 ⟨hv, y3⟩
  subst hv
  refine ⟨_, rfl, ifN (fun hno => absurd (hno.symm.trans hok) (by simp)) (fun _ => ?_)⟩
  have k0 := (hn1.blk.ext hn2.ext).ext y3
  refine ⟨_, k0.loadAt 0 rfl (by kernel_rfl) rfl, _, _, _, k0.loadAt 1 rfl (by kernel_rfl) rfl, ?_⟩
  refine Ret.at (spec_l04Make_c (ha.ext (X.trans y3)) (digs_limbs _)) ?_
  rintro v w4 ⟨b, q, qn, qc, hv, hbb, ho, y4⟩
  subst hv
  have l3 := y3.le
  obtain ⟨w5, st, hb5, ch, sz⟩ := ((hn2.blk.ext y3).ext y4).storeA0 (P := P) (t := T_impl_Signed) (xs := [.bool b, .slice q qn qc]) (by kernel_rfl) rfl (by simp [Value.oneCell'])
  have ow := Owns.int2 (b := b) ho
  rw [hbb, val_digs, show (((z.natAbs : Nat) : Int)).toNat = z.natAbs from rfl] at ow
  have e : mkS (!decide (z < 0)) (capL (digs z.natAbs)) = enc (-z) := by
    rw [<- icap_fit (z := -z) (by rw [Int.natAbs_neg]; exact hlen)]
    refine mkS_digs (by rw [Int.natAbs_neg]) fun h0 => ?_
    by_cases h1 : z < 0
    · simp [h1]; omega
    · simp [h1]; omega
  have ow2 : Owns w4 w3.heap.size [.bool b, .slice q qn qc] (enc (-z)) (q.map (·.block)).toList := by
    rw [<- e, hbb, val_digs, show (((z.natAbs : Nat) : Int)).toNat = z.natAbs from rfl]; exact ow
  exact ⟨_, _, _, _, rfl, w5, st, _, _, _, _, hb5.loadA0 (by kernel_rfl), _, _, rfl, (ow2.chg1 ch (by omega)).mono (by omega), nodup_opt q, ((X.trans y3).trans y4).chg ch (by simp; omega)⟩
end Go.Proofs.YtbgokfhcgcoipaaGreat
namespace Go.Proofs.YtbgokfhcgcoipaaGreat
open Go Go.Proofs.YtbgokfhcgcoipaaGreat.Sx
theorem spec_RatNeg_c {w : World} {xs : List Value} {dx : List D0} (h : Reps w xs dx) (hc : dx.map D0.code = [.bool, .ints, .ints]) (hok : ratOk dx = true) :
    Ret P n_spec_RatNeg [.agg ⟨xs⟩] w fun v w' => ∃ vs' f, v = .tuple #[.agg ⟨vs'⟩, .bool true] /\ Owns w' w.heap.size vs' (rmk (-(ratNum dx)) (ratDen dx)) f /\ Ext w w' := by
  have ok := (ratOk_enc hok).2
  have hr := h
  obtain ⟨p1, n1, c1, p2, n2, c2, rfl, i1, i2, g1, g2, he⟩ := rat_parts h hc hok
  refine spec_RatNeg_ret ?_
  unfold spec_RatNeg
  intro r w1 hn1 r1 w2 hn2
  have X2 := hn1.ext.trans hn2.ext
  refine ⟨_, _, _, _, _, _, _, (hn1.blk.ext hn2.ext).loadA0 (by kernel_rfl), ?_⟩
  refine Ret.at (spec_RatOk_c (hr.ext X2) hc) ?_
  rintro v w3 ⟨hv, y3⟩
  subst hv
  refine ⟨_, rfl, ifN (fun e => by rw [hok] at e; cases e) (fun _ => ?_)⟩
  have D := Ext.drew w3
  have X := (X2.trans y3).trans D
  have k0 := ((hn1.blk.ext hn2.ext).ext y3).ext D; have k1 := (hn2.blk.ext y3).ext D
  have e2 := hn2.r_eq; have s1 := hn1.size; have s2 := hn2.size; have lD := D.le; have ly3 := y3.le
  refine ⟨_, _, _, _, fun W hW => (k0.ext hW).loadAAt 0 [.bool (decide (ratNum dx < 0)), .slice p1 n1 c1] rfl (by kernel_rfl) rfl, ?_⟩
  intro ss w4 f1
  have hok' : intOk (enc (ratNum dx)) = true := by
    have := icap_ok (ratNum dx)
    rwa [icap_fit (by omega)] at this
  refine Ret.at (spec_IntNeg_c (he.ext (X.trans f1.ext)) hok') ?_
  rintro v w5 ⟨vs, f, hv, ho, nd, y5⟩
  subst hv
  have ho' := ho
  obtain ⟨b0, bp, bn, bc, bz, rfl, hq, hbr⟩ := open_Signed ho.reps (enc_code _)
  refine ⟨_, _, _, _, rfl, y5, _, _, _, fun W hW => (k0.ext hW).loadAt 2 rfl (by kernel_rfl) rfl, ?_⟩
  intro ss1 w6 r3 f2 g3
  have Y := (f1.ext.trans y5).trans f2.ext
  have hb3 : w3.drew.heap.size <= r3 /\ Blk w6 r3 T_int [] := by
    have len0 := f1.len
    cases hs : ss[0]? with
    | none =>
      rw [List.getElem?_eq_none_iff, len0] at hs
      simp at hs
    | some v =>
      cases v with
      | some q =>
        obtain ⟨b, hq⟩ := f1.got (k := 0) rfl rfl hs
        have e := (f2.keeps hs).symm.trans g3
        have e : q = r3 := by simpa using e
        rw [e] at b hq
        exact ⟨b, (Blk.ext (show Blk w4 r3 T_int [] from hq) y5).ext f2.ext⟩
      | none =>
        obtain ⟨b, hq⟩ := f2.got (k := 0) hs rfl g3
        exact ⟨Nat.le_trans ((f1.ext.trans y5).le) b, hq⟩
  obtain ⟨p7, c7, w7, a7, o7, y7⟩ := append0 hb3.2 (i2.ext (X.trans Y)) (by omega)
  have Z := Y.trans y7
  have lZ := f1.ext.le
  obtain ⟨w8, st, hb8, ch, sz⟩ := (k1.ext Z).storeA0 (P := P) (t := T_impl_Rat) (xs := [.bool b0, .slice bp bn bc, .slice p7 n2 c7]) (by kernel_rfl) rfl (by simp [Value.oneCell'])
  have q1 := ((ho'.ext f2.ext).ext y7).chg1 ch (by omega)
  have q2 := (Owns.ints (o7.mono hb3.1)).chg1 ch (by omega)
  refine ⟨_, _, _, _, a7, w8, st, _, _, _, _, _, _, _, hb8.loadA0 (by kernel_rfl), _, f ++ (p7.map (·.block)).toList, rfl, ?_, (X.trans Z).chg ch (by simp; omega)⟩
  rw [rmk_enc]; exact Owns.append (q1.mono (by omega)) (q2.mono (by omega))
end Go.Proofs.YtbgokfhcgcoipaaGreat
namespace Go.Proofs.YtbgokfhcgcoipaaGreat
open Go Go.Proofs.YtbgokfhcgcoipaaGreat.Sx
theorem lt_of_len {x i : Nat} (h : (digs x).length <= i) : x < 1000000000 ^ i := by
  have h1 := val_lt (digs_limbs x)
  rw [val_digs] at h1
  have : ((x : Nat) : Int) < ((1000000000 ^ (digs x).length : Nat) : Int) := by simpa using h1
  exact Nat.lt_of_lt_of_le (Int.ofNat_lt.1 this) (Nat.pow_le_pow_right (by decide) h)
theorem sum_len {x y : Int} {i : Nat} (hx : (digs x.natAbs).length <= i) (hy : (digs y.natAbs).length <= i) : (digs (x + y).natAbs).length <= i + 1 := by
  apply digs_len
  have h1 := lt_of_len hx; have h2 := lt_of_len hy
  have h3 : (x + y).natAbs <= x.natAbs + y.natAbs := Int.natAbs_add_le x y
  rw [Nat.pow_succ]
  omega
theorem ratOk_neg {N : Int} {D : Nat} (h : ratOk (rmk N D) = true) : ratOk (rmk (-N) D) = true := by
  obtain ⟨_, h1, h2, h3, h4⟩ := ratOk_enc h
  rw [ratNum_rmk] at h2 h3
  rw [ratDen_rmk] at h1 h2 h4
  exact ratOk_rmk h1 (by rw [Int.natAbs_neg]; exact h2) (by rw [Int.natAbs_neg]; exact h3) h4
theorem cross_len {N : Int} {E : Nat} (hN : (digs N.natAbs).length <= 18) (hE : (digs E).length <= 18) : (digs (N * (E : Int)).natAbs).length <= 36 := by
  rw [Int.natAbs_mul, Int.natAbs_natCast]
  exact prod_len hN hE
theorem IntsR.store2 {w w' : World} {r : Nat} {e : TypeId} {b : Bool} {q : Option Addr} {m d : Nat} {p : Option Addr} {n c : Nat} {z : List Int} (hb : Blk w r e [.bool b, .slice q m d]) (h : IntsR w p n c z) (ch : Chg [r] w w') : IntsR w' p n c z := by
  refine ⟨h.1, h.2.1, h.2.2.1, fun hn => ?_⟩
  obtain ⟨k, off, hp, hs⟩ := h.2.2.2 hn
  refine ⟨k, off, hp, hs.chg ch ?_⟩
  intro hm
  simp at hm
  subst hm
  have hl := h.1
  have h1 := hs 0 (.int .i64 (z[0]'(by omega))) (by simp [List.getElem?_eq_getElem (show 0 < z.length by omega)])
  rw [hb.cell] at h1
  generalize off + 0 = i at h1
  match i, h1 with
  | 0, h1 => simp at h1
  | 1, h1 => simp at h1
  | i + 2, h1 => simp at h1
theorem spec_RatAdd_n {w : World} {xs ys : List Value} {N1 N2 : Int} {D1 D2 : Nat} (h : Reps w xs (rmk N1 D1)) (g : Reps w ys (rmk N2 D2)) (hok : ratOk (rmk N1 D1) = true) (gok : ratOk (rmk N2 D2) = true) :
    Ret P n_spec_RatAdd [.agg ⟨xs⟩, .agg ⟨ys⟩] w fun v w' => ∃ vs f, v = .tuple #[.agg ⟨vs⟩, .bool (redOk (N1 * D2 + N2 * D1) (D1 * D2))] /\ Owns w' w.heap.size vs (redR (N1 * D2 + N2 * D1) (D1 * D2)) f /\ f.Nodup /\ Ext w w' := by
  have hr := h; have gr := g
  obtain ⟨p1, n1, c1, q1, m1, d1, rfl, i1, i2, li1, li2, he, hd1⟩ := rmk_open h hok
  obtain ⟨p2, n2, c2, q2, m2, d2, rfl, j1, j2, lj1, lj2, ke, hd2⟩ := rmk_open g gok
  have ei1 := i1.1; have ei2 := i2.1; have ej1 := j1.1; have ej2 := j2.1
  have pN := prod_len (x := N1.natAbs) (y := N2.natAbs) (i := 18) (j := 18) (by omega) (by omega)
  have pD := prod_len (x := D1) (y := D2) (i := 18) (j := 18) (by omega) (by omega)
  refine spec_RatAdd_ret ?_
  unfold spec_RatAdd
  intro r w1 hn1 r1 w2 hn2 r2 w3 hn3
  have e1 := hn1.r_eq; have e2 := hn2.r_eq; have e3 := hn3.r_eq; have z1 := hn1.size; have z2 := hn2.size; have z3 := hn3.size
  have X := (hn1.ext.trans hn2.ext).trans hn3.ext
  have b0 := (hn1.blk.ext hn2.ext).ext hn3.ext; have b1 := hn2.blk.ext hn3.ext; have b2 := hn3.blk
  refine ⟨_, _, _, _, _, _, _, b0.loadA0 (by kernel_rfl), ?_⟩
  refine Ret.at (spec_RatOk_c (hr.ext X) (rmk_code _ _)) ?_
  rintro v w5 ⟨hv, y5⟩
  subst hv
  rw [hok]
  refine ⟨_, rfl, ifN (fun hh => absurd hh (by simp)) (fun _ => ⟨_, _, _, _, _, _, _, (b1.ext y5).loadA0 (by kernel_rfl), ?_⟩)⟩
  refine Ret.at (spec_RatOk_c (gr.ext (X.trans y5)) (rmk_code _ _)) ?_
  rintro v w4 ⟨hv, y4⟩
  subst hv
  rw [gok]
  refine ⟨_, rfl, ifN (fun hh => absurd hh (by simp)) (fun _ => ?_)⟩
  unfold spec_RatAdd_j0
  have D := Ext.drew w4
  have Y := (y5.trans y4).trans D
  have X4 := X.trans Y
  have lY := Y.le
  have b0 := b0.ext Y; have b1 := b1.ext Y; have b2 := b2.ext Y
  refine ⟨_, fun W hW => (b0.ext hW).loadAt 0 rfl (by kernel_rfl) rfl, _, _, _, fun W hW => (b0.ext hW).loadAt 1 rfl (by kernel_rfl) rfl, _, _, _, fun W hW => (b1.ext hW).loadAt 2 rfl (by kernel_rfl) rfl, ?_⟩
  intro ss1 a1 F11
  have S11 := (FlSt.start (o := .cells ⟨[.bool false, .slice none 0 0]⟩ T_impl_Signed (0, 0)) w4.drew).step F11
  refine Ret.at (spec_l02Mul_c (i1.ext (X4.trans F11.ext)) (j2.ext (X4.trans F11.ext)) (digs_limbs _) (digs_limbs _) (by omega) (by omega)) ?_
  rintro v a1b ⟨pa1, na1, ca1, hv, oa1, ya1⟩
  subst hv
  rw [val_digs, val_digs] at oa1
  have la1 := oa1.len
  simp only [List.length_map] at la1
  have ta1 := prod_len (x := N1.natAbs) (y := D2) (i := 18) (j := 18) (by omega) (by omega)
  rw [show N1.natAbs * D2 = ((N1.natAbs : Int) * D2).toNat by rw [<- Int.natCast_mul, Int.toNat_natCast]] at ta1
  refine ⟨_, _, _, rfl, ya1, ?_⟩
  intro ss1' a1c F21
  have S21 := (S11.ext ya1).step F21
  refine Ret.at (prod_make (n := N1) (d := D2) (oa1.ints.ext F21.ext) hd2 (by omega)) ?_
  rintro v a1d ⟨ba1, pb1, nb1, cb1, hv, ra1, _, yb1⟩
  subst hv
  refine ⟨_, _, _, _, rfl, ?_⟩
  intro ss1'' a1e r1 F31 G1
  have S31 := (S21.ext yb1).step F31
  obtain ⟨hr1, hbk1⟩ := S31.get G1
  have B1 : Blk a1e r1 T_impl_Signed [.bool false, .slice none 0 0] := hbk1
  obtain ⟨a1f, st1, bb1, ch1, _⟩ := B1.storeA0 (P := P) (t := T_impl_Signed) (xs := [.bool ba1, .slice pb1 nb1 cb1]) (by kernel_rfl) rfl (by simp [Value.oneCell'])
  have Ya1 : Ext w4.drew a1f := S31.1.chg ch1 (by simp; exact hr1)
  have ia1 : Reps a1f [.bool ba1, .slice pb1 nb1 cb1] (enc (N1 * (D2 : Int))) := by
    obtain ⟨h0, ⟨p', n', c', hq, hi⟩, _⟩ := ra1
    cases hq
    exact ⟨h0, ⟨_, _, _, rfl, IntsR.store2 B1 (hi.ext F31.ext) ch1⟩, trivial⟩
  refine ⟨a1f, st1, ?_⟩
  have DA := Ext.drew a1f
  have YA := Ya1.trans DA
  have XA := X4.trans YA
  have c0 := b0.ext YA; have c1 := b1.ext YA; have c2 := b2.ext YA
  have lYA := YA.le
  refine ⟨_, fun W hW => (c1.ext hW).loadAt 0 rfl (by kernel_rfl) rfl, _, _, _, fun W hW => (c1.ext hW).loadAt 1 rfl (by kernel_rfl) rfl, _, _, _, fun W hW => (c0.ext hW).loadAt 2 rfl (by kernel_rfl) rfl, ?_⟩
  intro ss2 a2 F12
  have S12 := (FlSt.start (o := .cells ⟨[.bool false, .slice none 0 0]⟩ T_impl_Signed (0, 0)) a1f.drew).step F12
  refine Ret.at (spec_l02Mul_c (j1.ext (XA.trans F12.ext)) (i2.ext (XA.trans F12.ext)) (digs_limbs _) (digs_limbs _) (by omega) (by omega)) ?_
  rintro v a2b ⟨pa2, na2, ca2, hv, oa2, ya2⟩
  subst hv
  rw [val_digs, val_digs] at oa2
  have la2 := oa2.len
  simp only [List.length_map] at la2
  have ta2 := prod_len (x := N2.natAbs) (y := D1) (i := 18) (j := 18) (by omega) (by omega)
  rw [show N2.natAbs * D1 = ((N2.natAbs : Int) * D1).toNat by rw [<- Int.natCast_mul, Int.toNat_natCast]] at ta2
  refine ⟨_, _, _, rfl, ya2, ?_⟩
  intro ss2' a2c F22
  have S22 := (S12.ext ya2).step F22
  refine Ret.at (prod_make (n := N2) (d := D1) (oa2.ints.ext F22.ext) hd1 (by omega)) ?_
  rintro v a2d ⟨ba2, pb2, nb2, cb2, hv, ra2, _, yb2⟩
  subst hv
  refine ⟨_, _, _, _, rfl, ?_⟩
  intro ss2'' a2e r2 F32 G2
  have S32 := (S22.ext yb2).step F32
  obtain ⟨hr2, hbk2⟩ := S32.get G2
  have B2 : Blk a2e r2 T_impl_Signed [.bool false, .slice none 0 0] := hbk2
  obtain ⟨a2f, st2, bb2, ch2, _⟩ := B2.storeA0 (P := P) (t := T_impl_Signed) (xs := [.bool ba2, .slice pb2 nb2 cb2]) (by kernel_rfl) rfl (by simp [Value.oneCell'])
  have Ya2 : Ext a1f.drew a2f := S32.1.chg ch2 (by simp; exact hr2)
  have ia2 : Reps a2f [.bool ba2, .slice pb2 nb2 cb2] (enc (N2 * (D1 : Int))) := by
    obtain ⟨h0, ⟨p', n', c', hq, hi⟩, _⟩ := ra2
    cases hq
    exact ⟨h0, ⟨_, _, _, rfl, IntsR.store2 B2 (hi.ext F32.ext) ch2⟩, trivial⟩
  refine ⟨a2f, st2, ?_⟩
  have XB := XA.trans Ya2
  have lYB := Ya2.le
  have g0 := c0.ext Ya2; have g1 := c1.ext Ya2; have g2 := c2.ext Ya2
  have k1 := (bb1.ext DA).ext Ya2
  have t1 := cross_len (N := N1) (E := D2) (by omega) (by omega)
  have t2 := cross_len (N := N2) (E := D1) (by omega) (by omega)
  have t3 := sum_len t1 t2
  refine ⟨_, _, _, _, k1.loadA0 (by kernel_rfl), _, _, _, _, bb2.loadA0 (by kernel_rfl), ?_⟩
  refine Ret.at (spec_l04Add_c ((ia1.ext DA).ext Ya2) ia2 (by omega) (by omega)) ?_
  rintro v w7 ⟨vs7, f7, hv, ho7, _, y7⟩
  subst hv
  rw [icap_fit (by omega)] at ho7
  have hr7 := ho7.reps
  obtain ⟨u0, up, un, uc, uz, rfl, hu, ui⟩ := open_Signed hr7 (enc_code _)
  simp only [enc, List.cons.injEq, D0.bool.injEq, D0.ints.injEq, and_true] at hu
  obtain ⟨rfl, rfl⟩ := hu
  refine ⟨_, _, _, _, rfl, ?_⟩
  intro r5 w8 hn8
  obtain ⟨w9, st9, hb9, y9⟩ := hn8.fill (P := P) (t := T_impl_Signed) (xs := [.bool (decide (N1 * (D2 : Int) + N2 * (D1 : Int) < 0)), .slice up un uc]) (by simp [Value.oneCell']) (by kernel_rfl) rfl
  refine ⟨w9, st9, ?_⟩
  have D9 := Ext.drew w9
  have Y9 := (y7.trans y9).trans D9
  have X9 := XB.trans Y9
  have lY9 := Y9.le
  have g0 := g0.ext Y9; have g1 := g1.ext Y9; have g2 := g2.ext Y9; have hb9 := hb9.ext D9
  have ui9 := (ui.ext y9).ext D9
  have lui := ui.1
  refine ⟨_, fun W hW => (hb9.ext hW).loadAt 0 rfl (by kernel_rfl) rfl, _, _, _, fun W hW => (hb9.ext hW).loadAt 1 rfl (by kernel_rfl) rfl, _, _, _, fun W hW => (g0.ext hW).loadAt 2 rfl (by kernel_rfl) rfl, _, _, _, fun W hW => (g1.ext hW).loadAt 2 rfl (by kernel_rfl) rfl, ?_⟩
  refine Ret.at (spec_l02Mul_c (i2.ext X9) (j2.ext X9) (digs_limbs _) (digs_limbs _) (by omega) (by omega)) ?_
  rintro v w10 ⟨p10, n10, c10, hv, o10, y10⟩
  subst hv
  rw [val_mul] at o10
  have l10 := o10.ints.1
  have ly10 := y10.le
  refine ⟨_, _, _, rfl, y10, ?_⟩
  refine Ret.at (spec_l05Low_c (n := N1 * D2 + N2 * D1) (ui9.ext y10) o10.ints (fun _ => rfl) (Nat.mul_pos hd1 hd2) (by omega) (by omega)) ?_
  rintro v w99 ⟨vs9, f9, hv, ho9, nd9, y99⟩
  subst hv
  obtain ⟨zb, zp, zn, zc, zz, zp2, zn2, zc2, zz2, rfl, _, _, _⟩ := open_Rat ho9.reps (redR_code _ _)
  obtain ⟨W', st', ld', ow', xx', _, _⟩ := agg_end (t := T_impl_Rat) ((g2.ext y10).ext y99) ((X9.trans y10).trans y99) (by omega) ho9 (by kernel_rfl) rfl (by omega) (by omega)
  exact ⟨_, _, _, _, _, _, _, _, rfl, W', st', _, _, _, _, _, _, _, ld', _, f9, rfl, ow', nd9, xx'⟩
  
theorem spec_RatSub_n {w : World} {xs ys : List Value} {N1 N2 : Int} {D1 D2 : Nat} (h : Reps w xs (rmk N1 D1)) (g : Reps w ys (rmk N2 D2)) (hok : ratOk (rmk N1 D1) = true) (gok : ratOk (rmk N2 D2) = true) :
    Ret P n_spec_RatSub [.agg ⟨xs⟩, .agg ⟨ys⟩] w fun v w' => ∃ vs f, v = .tuple #[.agg ⟨vs⟩, .bool (redOk (N1 * D2 + -N2 * D1) (D1 * D2))] /\ Owns w' w.heap.size vs (redR (N1 * D2 + -N2 * D1) (D1 * D2)) f /\ f.Nodup /\ Ext w w' := by
  have hr := h; have gr := g
  obtain ⟨p1, n1, c1, q1, m1, d1, rfl, i1, i2, li1, li2, he, hd1⟩ := rmk_open h hok
  obtain ⟨p2, n2, c2, q2, m2, d2, rfl, j1, j2, lj1, lj2, ke, hd2⟩ := rmk_open g gok
  have ei1 := i1.1; have ei2 := i2.1; have ej1 := j1.1; have ej2 := j2.1
  have pN := prod_len (x := N1.natAbs) (y := N2.natAbs) (i := 18) (j := 18) (by omega) (by omega)
  have pD := prod_len (x := D1) (y := D2) (i := 18) (j := 18) (by omega) (by omega)
  refine spec_RatSub_ret ?_
  unfold spec_RatSub
  intro r w1 hn1 r1 w2 hn2 r2 w3 hn3
  have e1 := hn1.r_eq; have e2 := hn2.r_eq; have e3 := hn3.r_eq; have z1 := hn1.size; have z2 := hn2.size; have z3 := hn3.size
  have X := (hn1.ext.trans hn2.ext).trans hn3.ext
  have b0 := (hn1.blk.ext hn2.ext).ext hn3.ext; have b1 := hn2.blk.ext hn3.ext; have b2 := hn3.blk
  refine ⟨_, _, _, _, _, _, _, b1.loadA0 (by kernel_rfl), ?_⟩
  refine Ret.at (spec_RatNeg_c (gr.ext X) (rmk_code _ _) gok) ?_
  rintro v w5 ⟨vs5, f5, hv, ho5, y5⟩
  subst hv
  rw [ratNum_rmk, ratDen_rmk] at ho5
  have hr5 := ho5.reps
  obtain ⟨s0, sp, sn, sc, sz, sp2, sn2, sc2, sz2, rfl, _, _, _⟩ := open_Rat hr5 (rmk_code _ _)
  refine ⟨_, _, _, _, _, _, _, _, rfl, ?_⟩
  intro r6 w6 hn6
  obtain ⟨w7, st7, hb7, y7⟩ := hn6.fill (P := P) (t := T_impl_Rat) (xs := [.bool s0, .slice sp sn sc, .slice sp2 sn2 sc2]) (by simp [Value.oneCell']) (by kernel_rfl) rfl
  refine ⟨w7, st7, ifN (fun hh => absurd hh (by simp)) (fun _ => ?_)⟩
  have Y := y5.trans y7
  have X4 := X.trans Y
  have lY := Y.le
  have b0 := b0.ext Y; have b1 := b1.ext Y; have b2 := b2.ext Y
  refine ⟨_, _, _, _, _, _, _, b0.loadA0 (by kernel_rfl), _, _, _, _, _, _, _, hb7.loadA0 (by kernel_rfl), ?_⟩
  refine Ret.at (spec_RatAdd_n (hr.ext X4) (hr5.ext y7) hok (ratOk_neg gok)) ?_
  rintro v w99 ⟨vs9, f9, hv, ho9, nd9, y99⟩
  subst hv
  obtain ⟨zb, zp, zn, zc, zz, zp2, zn2, zc2, zz2, rfl, _, _, _⟩ := open_Rat ho9.reps (redR_code _ _)
  obtain ⟨W', st', ld', ow', xx', _, _⟩ := agg_end (t := T_impl_Rat) ((b2).ext y99) ((X4).trans y99) (by omega) ho9 (by kernel_rfl) rfl (by omega) (by omega)
  exact ⟨_, _, _, _, _, _, _, _, rfl, W', st', _, _, _, _, _, _, _, ld', _, f9, rfl, ow', nd9, xx'⟩
  
end Go.Proofs.YtbgokfhcgcoipaaGreat
namespace Go.Proofs.YtbgokfhcgcoipaaGreat
open Go Go.Proofs.YtbgokfhcgcoipaaGreat.Sx
theorem spec_l02Add_k {w : World} {p q : Option Addr} {n c m d : Nat} {a b : List Int} (h : IntsR w p n c a) (k : IntsR w q m d b) (hca : Canon a) (hcb : Canon b) (hn : n <= 10000000) (hm : m <= 10000000) :
    Ret P n_spec_l02Add [.slice p n c, .slice q m d] w fun v w' => ∃ p' n' c' o, v = .slice p' n' c' /\ IntsR w' p' n' c' o /\ Canon o /\ n' <= n + m + 1 /\ val o = val a + val b /\ Ext w w' := by
  refine spec_l02Add_ret ?_
  unfold spec_l02Add
  have hla := h.1; have hlb := k.1
  have ha := hca.1; have hb := hcb.1
  intro r w1 hn1
  let Inv : Option Addr -> Nat -> Nat -> Int -> Int -> World -> Prop := fun p on c carry i wr => ∃ (o : List Int), i = on /\ on <= n + m + 1 /\ (0 < carry -> on <= n + m) /\ Own wr w.heap.size T_int 1 p on c (o.map (Value.int .i64)) /\ Ext w wr /\ Limbs o /\ o.length = on /\ 0 <= carry /\ carry <= 1 /\ (n <= on /\ m <= on /\ carry = 0 /\ 0 < on -> o.getLast? ≠ some 0) /\ val o + 1000000000 ^ on * carry = val (a.take on) + val (b.take on)
  refine ⟨Inv, fun _ _ _ _ i _ => n + m + 2 - i.toNat, ⟨[], rfl, by omega, by omega, Own.fresh hn1, hn1.ext, Limbs.nil, rfl, by omega, by omega, fun hh => absurd hh.2.2.2 (by omega), by simp [val]⟩, ?_⟩
  intro junk wr op j oc carry i ⟨o, hi, hjn, hcj, hown, hx, hlo, hol, hc0, hc1, hcan, hv⟩
  subst hi
  have A := ha.getD j; have B := hb.getD j
  have ab : (j : Int) < n ∨ a.getD j 0 = 0 := by
    by_cases e : j < n
    · left; omega
    · right; exact getD_beyond (by omega)
  have bb : (j : Int) < m ∨ b.getD j 0 = 0 := by
    by_cases e : j < m
    · left; omega
    · right; exact getD_beyond (by omega)
  have J2 : ∀ t, t = carry + a.getD j 0 + b.getD j 0 -> (j < n ∨ j < m ∨ 0 < carry) -> spec_l02Add_j2 wr Inv (fun _ _ _ _ i _ => n + m + 2 - i.toNat) op j oc carry j t wr fun v w' => ∃ p' n' c' o, v = .slice p' n' c' /\ IntsR w' p' n' c' o /\ Canon o /\ n' <= n + m + 1 /\ val o = val a + val b /\ Ext w w' := by
    intro t ht hlt
    unfold spec_l02Add_j2
    refine ⟨by decide, _, rfl, fun r1 w2 hn2 => ?_⟩
    rw [tmod_limb (by omega)] at hn2
    obtain ⟨p', c', w3, g1, g2, g3⟩ := Own.push hown hx.le hn2 (by omega)
    refine ⟨_, _, _, _, g1, by decide, ?_⟩
    rw [tdiv_limb (by omega)]
    have hcar : 0 < t / 1000000000 -> j < n ∨ j < m := by
      intro h0
      by_cases e : j < n
      · exact .inl e
      · by_cases e2 : j < m
        · exact .inr e2
        · have e3 := ab.resolve_left (by omega); have e4 := bb.resolve_left (by omega)
          rw [e3, e4] at ht; omega
    have hnew : n <= j + 1 /\ m <= j + 1 /\ t / 1000000000 = 0 /\ 0 < j + 1 -> (o ++ [t % 1000000000]).getLast? ≠ some 0 := by
      intro hh
      rw [List.getLast?_concat]
      intro e
      have e := Option.some.inj e
      have : 1 <= t := by
        rcases hlt with h1 | h1 | h1
        · have := canon_top hca (show a.length = j + 1 by omega)
          omega
        · have := canon_top hcb (show b.length = j + 1 by omega)
          omega
        · omega
      omega
    refine exW ⟨by omega, by omega⟩ (exW ⟨by omega, by omega⟩ ⟨⟨o ++ [t % 1000000000], by omega, by rcases hlt with h | h | h <;> omega, fun h0 => by rcases hcar h0 with h | h <;> omega, g2, g3 w hx (Nat.le_refl _), hlo.snoc (limb_mod t), by simp [hol], by omega, by omega, hnew, add_step hol hv ht⟩, ?_⟩)
    show n + m + 2 - ((j : Int) + 1).toNat < n + m + 2 - (j : Int).toNat
    rcases hlt with h | h | h <;> omega
  have J1 : ∀ t, t = carry + a.getD j 0 -> (j < n ∨ j < m ∨ 0 < carry) -> spec_l02Add_j1 q m wr Inv (fun _ _ _ _ i _ => n + m + 2 - i.toNat) op j oc carry j t wr fun v w' => ∃ p' n' c' o, v = .slice p' n' c' /\ IntsR w' p' n' c' o /\ Canon o /\ n' <= n + m + 1 /\ val o = val a + val b /\ Ext w w' := by
    intro t ht hlt
    unfold spec_l02Add_j1
    refine ifD (fun hlm => ?_) (fun hge => J2 _ (by rw [bb.resolve_left hge]; omega) hlt)
    obtain ⟨ad, rfl, hl⟩ := ints_at (k.ext hx) (i := (j : Int)) (by omega) hlm
    exact ⟨⟨by omega, by omega⟩, _, hl, exW ⟨by simp only [Int.toNat_natCast]; omega, by simp only [Int.toNat_natCast]; omega⟩ (J2 _ (by simp only [Int.toNat_natCast]; omega) hlt)⟩
  have J0 : (j < n ∨ j < m ∨ 0 < carry) -> spec_l02Add_j0 p n q m wr Inv (fun _ _ _ _ i _ => n + m + 2 - i.toNat) op j oc carry j wr fun v w' => ∃ p' n' c' o, v = .slice p' n' c' /\ IntsR w' p' n' c' o /\ Canon o /\ n' <= n + m + 1 /\ val o = val a + val b /\ Ext w w' := by
    intro hlt
    unfold spec_l02Add_j0
    refine ifD (fun hln => ?_) (fun hge => J1 _ (by rw [ab.resolve_left hge]; omega) hlt)
    obtain ⟨ad, hp, hl⟩ := ints_at (h.ext hx) (i := (j : Int)) (by omega) hln
    subst hp
    exact ⟨⟨by omega, by omega⟩, _, hl, exW ⟨by simp only [Int.toNat_natCast]; omega, by simp only [Int.toNat_natCast]; omega⟩ (J1 _ (by simp only [Int.toNat_natCast]) hlt)⟩
  have fin : ¬ (j : Int) < n -> ¬ (j : Int) < m -> ¬ 0 < carry -> ∃ p' n' c' o, Value.slice op j oc = .slice p' n' c' /\ IntsR wr p' n' c' o /\ Canon o /\ n' <= n + m + 1 /\ val o = val a + val b /\ Ext w wr := by
    intro h1 h2 h3
    have hc : carry = 0 := by omega
    subst hc
    rw [List.take_of_length_le (by omega), List.take_of_length_le (by omega)] at hv
    have hlast : o.getLast? ≠ some 0 := by
      rcases Nat.eq_zero_or_pos j with hj0 | hj0
      · have : o = [] := List.eq_nil_of_length_eq_zero (by omega)
        rw [this]; simp
      · exact hcan ⟨by omega, by omega, rfl, hj0⟩
    exact ⟨_, _, _, o, rfl, hown.ints, ⟨hlo, hlast⟩, hjn, by omega, hx⟩
  exact ifD (fun h1 => ifT (ifT (J0 (.inl (by omega))))) (fun h1 => ifD (fun h2 => ifT (J0 (.inr (.inl (by omega))))) (fun h2 => ifD (fun h3 => J0 (.inr (.inr h3))) (fun h3 => fin h1 h2 h3)))
theorem spec_l02Add_n {w : World} {p q : Option Addr} {n c m d : Nat} {x y : Nat} (h : IntsR w p n c (digs x)) (k : IntsR w q m d (digs y)) (hn : n <= 1000) (hm : m <= 1000) :
    Ret P n_spec_l02Add [.slice p n c, .slice q m d] w fun v w' => ∃ p' n' c', v = .slice p' n' c' /\ IntsR w' p' n' c' (digs (x + y)) /\ Ext w w' := by
  refine (spec_l02Add_k h k (digs_canon x) (digs_canon y) (by omega) (by omega)).mono ?_
  rintro v w' ⟨p', n', c', o, hv, hi, hc, _, hval, y'⟩
  have e : o = digs (x + y) := by
    rw [val_digs, val_digs] at hval
    refine canon_inj hc (digs_canon _) ?_
    rw [hval, val_digs, Int.natCast_add]
  subst e
  exact ⟨p', n', c', hv, hi, y'⟩
theorem digs_one_r {W : World} {r : Nat} (hb : Blk W r T_int [.int .i64 1]) : IntsR W (some ⟨r, 0, none⟩) 1 1 (digs 1) := by
  rw [digs_one]
  exact ⟨rfl, Nat.le_refl _, by omega, fun _ => ⟨_, 0, rfl, hb.seg⟩⟩
theorem odd_even (q : Nat) : (!(decide (q % 2 = 0))) = decide (q % 2 = 1) := by
  rcases Nat.mod_two_eq_zero_or_one q with h | h <;> simp [h]
theorem spec_NatEven_n {w : World} {p : Option Addr} {n c q : Nat} (h : IntsR w p n c (digs q)) (hn : n <= 50) :
    Ret P n_spec_NatEven [.slice p n c] w fun v w' => v = .bool (decide (q % 2 = 0)) /\ Ext w w' := by
  have hl := h.1
  refine spec_NatEven_ret ?_
  unfold spec_NatEven
  refine Ret.at (spec_NatOk_c h) ?_
  rintro v w1 ⟨hv, y1⟩
  subst hv
  rw [natOk_spec.2 ⟨digs_canon q, by omega⟩]
  refine ⟨_, rfl, ifT (ifD (fun h0 => ⟨?_, y1⟩) (fun h0 => ?_))⟩
  · have : q % 2 = 0 := even_head.1 (.inl (by omega))
    rw [decide_eq_true this]
  · obtain ⟨ad, hp', hld⟩ := (h.ext y1).at (P := P) (t := T_int) (by kernel_rfl) (k := 0) (by omega)
    subst hp'
    have hx := digs_limbs q _ (List.getElem_mem (show 0 < (digs q).length by omega))
    refine ⟨⟨by omega, by omega⟩, _, by simpa using hld, by decide, _, rfl, ?_, y1⟩
    rw [Int.tmod_eq_emod_of_nonneg hx.1]
    have e : (digs q)[0]'(by omega) = (digs q).getD 0 0 := by rw [List.getD_eq_getElem?_getD, List.getElem?_eq_getElem (by omega)]; rfl
    rw [e]
    exact congrArg Value.bool (decide_eq_decide.2 ⟨fun hh => even_head.1 (.inr hh), fun hh => (even_head.2 hh).resolve_left (by omega)⟩)
end Go.Proofs.YtbgokfhcgcoipaaGreat
namespace Go.Proofs.YtbgokfhcgcoipaaGreat
open Go Go.Proofs.YtbgokfhcgcoipaaGreat.Sx
def modeOk (m : Int) : Bool := decide (0 <= m /\ m <= 6)
theorem rround_sign {n : Int} {d : Nat} {m : Int} (h : rround n d m ≠ 0) : decide (n < 0) = decide (rround n d m < 0) := by
  have e : rround n d m = if n < 0 then -((roundM n d m : Nat) : Int) else ((roundM n d m : Nat) : Int) := rfl
  by_cases hn : n < 0
  · rw [if_pos hn] at e
    rw [decide_eq_true hn, decide_eq_true (show rround n d m < 0 by omega)]
  · rw [if_neg hn] at e
    rw [decide_eq_false hn, decide_eq_false (show ¬ rround n d m < 0 by omega)]
theorem roundM_len {n : Int} {d : Nat} {m : Int} {k : Nat} (hd : 0 < d) (h : (digs n.natAbs).length <= k) : (digs (roundM n d m)).length <= k + 1 := by
  apply digs_len
  have h1 := lt_of_len h
  have h2 := roundM_le n d m
  have h3 := Nat.div_le_self n.natAbs d
  have h4 : 0 < 1000000000 ^ k := Nat.pow_pos (by decide)
  rw [Nat.pow_succ]
  omega
theorem spec_l06Mode_c (m : Int) (w : World) : Ret P n_spec_l06Mode [.int .i64 m] w fun v w' => v = .bool (modeOk m) /\ w' = w := by
  refine spec_l06Mode_ret ?_
  unfold spec_l06Mode
  refine Ret.at (spec_l01In_c m 0 6 w) ?_
  rintro v w1 ⟨hv, hw⟩
  subst hv
  exact ⟨_, rfl, rfl, hw⟩
theorem spec_l06Away_n {w : World} {neg : Bool} {p1 p2 p3 : Option Addr} {n1 c1 n2 c2 n3 c3 : Nat} {Q R' d : Nat} {m : Int} (h1 : IntsR w p1 n1 c1 (digs Q)) (h2 : IntsR w p2 n2 c2 (digs R')) (h3 : IntsR w p3 n3 c3 (digs d)) (l1 : n1 <= 50) (l2 : n2 <= 50) :
    Ret P n_spec_l06Away [.bool neg, .slice p1 n1 c1, .slice p2 n2 c2, .slice p3 n3 c3, .int .i64 m] w fun v w' => v = .bool (modeAway m neg (cmpL (digs (R' + R')) (digs d)) (decide (Q % 2 = 1))) /\ Ext w w' := by
  refine spec_l06Away_ret ?_
  unfold spec_l06Away
  refine Ret.at (spec_l02Add_n h2 h2 (by omega) (by omega)) ?_
  rintro v w1 ⟨p4, n4, c4, hv, i4, y1⟩
  subst hv
  refine ⟨_, _, _, rfl, ?_⟩
  refine Ret.at (spec_l02Cmp_c i4 (h3.ext y1)) ?_
  rintro v w2 ⟨hv, y2⟩
  subst hv
  have X := y1.trans y2
  generalize cmpL (digs (R' + R')) (digs d) = half
  refine ⟨_, rfl, ifD (fun e0 => ⟨by rw [modeAway, if_pos e0], X⟩) (fun e0 => ifD (fun e1 => ⟨by rw [modeAway, if_neg e0, if_pos e1], X⟩) (fun e1 => ifD (fun e2 => ⟨by rw [modeAway, if_neg e0, if_neg e1, if_pos e2], X⟩) (fun e2 => ifD (fun e3 => ⟨by rw [modeAway, if_neg e0, if_neg e1, if_neg e2, if_pos e3], X⟩) (fun e3 => ifD (fun e4 => ⟨by rw [modeAway, if_neg e0, if_neg e1, if_neg e2, if_neg e3, if_pos e4], X⟩) (fun e4 => ifD (fun e5 => ⟨by rw [modeAway, if_neg e0, if_neg e1, if_neg e2, if_neg e3, if_neg e4, if_pos e5], X⟩) (fun e5 => ?_))))))⟩
  have e6 : modeAway m neg half (decide (Q % 2 = 1)) = (decide (0 < half) || (decide (half = 0) && decide (Q % 2 = 1))) := by rw [modeAway, if_neg e0, if_neg e1, if_neg e2, if_neg e3, if_neg e4, if_neg e5]
  rw [e6]
  refine ifD (fun h => ⟨by rw [decide_eq_true h]; rfl, X⟩) (fun h => ifD (fun h0 => ?_) (fun h0 => ⟨by rw [decide_eq_false h, decide_eq_false h0]; rfl, X⟩))
  refine Ret.at (spec_NatEven_n (h1.ext X) l1) ?_
  rintro v w3 ⟨hv, y3⟩
  subst hv
  refine ⟨_, rfl, ?_, X.trans y3⟩
  rw [odd_even, decide_eq_false h, decide_eq_true h0]
  rfl
theorem spec_l06Round_n {w : World} {xs : List Value} {N : Int} {D : Nat} {m : Int} (h : Reps w xs (rmk N D)) (hok : ratOk (rmk N D) = true) :
    Ret P n_spec_l06Round [.agg ⟨xs⟩, .int .i64 m] w fun v w' => ∃ vs f, v = .agg ⟨vs⟩ /\ Owns w' w.heap.size vs (enc (rround N D m)) f /\ f.Nodup /\ Ext w w' := by
  obtain ⟨p1, n1, c1, p2, n2, c2, rfl, i1, i2, li1, li2, he, hd⟩ := rmk_open h hok
  have ei1 := i1.1; have ei2 := i2.1
  have hd0 := digs_pos_len.2 (show D ≠ 0 by omega)
  refine spec_l06Round_ret ?_
  unfold spec_l06Round
  intro r w1 hn1 r1 w2 hn2
  have e1 := hn1.r_eq; have e2 := hn2.r_eq; have z1 := hn1.size; have z2 := hn2.size
  have X := hn1.ext.trans hn2.ext
  have b0 := hn1.blk.ext hn2.ext; have b1 := hn2.blk
  have fin : ∀ W p' n' c' M, Ext w2 W -> IntsR W p' n' c' (digs M) -> M = roundM N D m -> spec_l06Round_j0 r r1 p' n' c' W fun v w' => ∃ vs f, v = .agg ⟨vs⟩ /\ Owns w' w.heap.size vs (enc (rround N D m)) f /\ f.Nodup /\ Ext w w' := by
    intro W p' n' c' M hW hI hM
    unfold spec_l06Round_j0
    refine ⟨_, (b0.ext hW).loadAt 0 rfl (by kernel_rfl) rfl, ?_⟩
    refine Ret.at (spec_l04Make_c hI (digs_limbs _)) ?_
    rintro v w5 ⟨b5, p5, n5, c5, hv, hb5, o5, y5⟩
    subst hv
    rw [val_digs, Int.toNat_natCast] at hb5 o5
    have hl5 : (digs M).length <= 19 := by rw [hM]; exact roundM_len hd (by omega)
    have ecap : capL (digs M) = digs M := by unfold capL; rw [if_pos (by omega)]
    rw [ecap] at hb5 o5
    have lW := hW.le
    have ho : Owns w5 W.heap.size [.bool b5, .slice p5 n5 c5] (enc (rround N D m)) (p5.map (·.block)).toList := by
      rw [hb5]
      exact own_int o5 (z := rround N D m) (by rw [rround_abs]; exact hM) rround_sign
    obtain ⟨W', st, ld, ow, xx, _, _⟩ := agg_end (t := T_impl_Signed) (b1.ext (hW.trans y5)) (X.trans (hW.trans y5)) (by omega) ho (by kernel_rfl) rfl (by omega) (by omega)
    exact ⟨_, _, _, _, rfl, W', st, _, _, _, _, ld, _, _, rfl, ow, nodup_opt p5, xx⟩
  refine ⟨_, _, _, b0.loadAt 1 rfl (by kernel_rfl) rfl, _, _, _, b0.loadAt 2 rfl (by kernel_rfl) rfl, ?_⟩
  refine Ret.at (spec_l03Div_c (i1.ext X) (i2.ext X) (digs_limbs _) (digs_canon _) (by omega) (by omega) (by omega)) ?_
  rintro v w3 ⟨p3, n3, c3, p4, n4, c4, hv, oq, or', y3⟩
  subst hv
  rw [val_div] at oq
  rw [val_mod] at or'
  have lq := oq.1; have lr := or'.1
  have q50 : n3 <= 40 := by have := digs_mono_len (Nat.div_le_self N.natAbs D); omega
  have r50 : n4 <= 40 := by have := digs_mono_len (Nat.le_of_lt (Nat.mod_lt N.natAbs hd)); omega
  refine ⟨_, _, _, _, _, _, rfl, ifD (fun hrem => ?_) (fun hno => ifF (fin _ _ _ _ _ y3 oq ?_))⟩
  · have hne : N.natAbs % D ≠ 0 := digs_pos_len.1 (by omega)
    refine ⟨_, (b0.ext y3).loadAt 0 rfl (by kernel_rfl) rfl, _, _, _, (b0.ext y3).loadAt 2 rfl (by kernel_rfl) rfl, ?_⟩
    refine Ret.at (spec_l06Away_n oq or' (i2.ext (X.trans y3)) (by omega) (by omega)) ?_
    rintro v w4 ⟨hv, y4⟩
    subst hv
    refine ⟨_, rfl, fun hyes => ?_, fun hno => fin _ _ _ _ _ (y3.trans y4) (oq.ext y4) ?_⟩
    · intro r8 w8 hn8
      refine Ret.at (spec_l02Add_n ((oq.ext y4).ext hn8.ext) (digs_one_r hn8.blk) (by omega) (by omega)) ?_
      rintro v w9 ⟨p9, n9, c9, hv, i9, y9⟩
      subst hv
      refine ⟨_, _, _, rfl, fin _ _ _ _ _ (((y3.trans y4).trans hn8.ext).trans y9) i9 ?_⟩
      rw [roundM, if_pos ⟨hne, hyes⟩]
    · rw [roundM, if_neg (fun hh => by rw [hh.2] at hno; cases hno)]
  · have heq : N.natAbs % D = 0 := Decidable.byContradiction fun hh => by
      have := digs_pos_len.2 hh
      omega
    rw [roundM, if_neg (fun hh => hh.1 heq)]
theorem spec_RatRound_n {w : World} {xs : List Value} {N : Int} {D : Nat} {m : Int} (h : Reps w xs (rmk N D)) (hok : ratOk (rmk N D) = true) :
    Ret P n_spec_RatRound [.agg ⟨xs⟩, .int .i64 m] w fun v w' => ∃ vs f, v = .tuple #[.agg ⟨vs⟩, .bool (modeOk m)] /\ Owns w' w.heap.size vs (enc (if modeOk m then rround N D m else 0)) f /\ f.Nodup /\ Ext w w' := by
  have hr := h
  obtain ⟨p1, n1, c1, p2, n2, c2, rfl, i1, i2, li1, li2, he, hd⟩ := rmk_open h hok
  have ei1 := i1.1; have ei2 := i2.1
  refine spec_RatRound_ret ?_
  unfold spec_RatRound
  intro r w1 hn1 r1 w2 hn2
  have e1 := hn1.r_eq; have e2 := hn2.r_eq; have z1 := hn1.size; have z2 := hn2.size
  have X := hn1.ext.trans hn2.ext
  have b0 := hn1.blk.ext hn2.ext; have b1 := hn2.blk
  refine ⟨_, _, _, _, _, _, _, b0.loadA0 (by kernel_rfl), ?_⟩
  refine Ret.at (spec_RatOk_c (hr.ext X) (rmk_code _ _)) ?_
  rintro v w3 ⟨hv, y3⟩
  subst hv
  rw [hok]
  refine ⟨_, rfl, ifN (fun hh => absurd hh (by simp)) (fun _ => ?_)⟩
  refine Ret.at (spec_l06Mode_c m _) ?_
  rintro v w4 ⟨hv, hw⟩
  subst hv; subst hw
  have X3 := X.trans y3
  have l3 := y3.le
  have b0 := b0.ext y3; have b1 := b1.ext y3
  refine ⟨_, rfl, ifN (fun hno => ?_) (fun hyes => ?_)⟩
  · obtain ⟨W', st, ld, ow, xx, _, _⟩ := agg_end (t := T_impl_Signed) b1 X3 (by omega) (own_sgn0 w4 (r1 + 1)) (by kernel_rfl) rfl (by omega) (by omega)
    exact ⟨W', st, _, _, _, _, ld, _, [], by rw [hno], by rw [hno]; exact ow, List.nodup_nil, xx⟩
  · refine ⟨_, _, _, _, _, _, _, b0.loadA0 (by kernel_rfl), ?_⟩
    refine Ret.at (spec_l06Round_n (hr.ext X3) hok) ?_
    rintro v w5 ⟨vs5, f5, hv, ho5, nd5, y5⟩
    subst hv
    have hr5 := ho5.reps
    obtain ⟨s0, sp, sn, sc, sz, rfl, _, _⟩ := open_Signed hr5 (enc_code _)
    obtain ⟨W', st, ld, ow, xx, _, _⟩ := agg_end (t := T_impl_Signed) (b1.ext y5) (X3.trans y5) (by omega) ho5 (by kernel_rfl) rfl (by omega) (by omega)
    exact ⟨_, _, _, _, rfl, W', st, _, _, _, _, ld, _, f5, by rw [hyes], by rw [hyes]; exact ow, nd5, xx⟩
end Go.Proofs.YtbgokfhcgcoipaaGreat
namespace Go.Proofs.YtbgokfhcgcoipaaGreat
open Go Go.Proofs.YtbgokfhcgcoipaaGreat.Sx
theorem two_end {t1 t2 : TypeId} {w W : World} {r1 r2 : Nat} {e1 e2 : TypeId} {o1 o2 xs1 xs2 : List Value} {d1 d2 : List D0} {f1 f2 : List Nat} {B : Nat} (hb1 : Blk W r1 e1 o1) (hb2 : Blk W r2 e2 o2) (X : Ext w W)
    (ho1 : Owns W B xs1 d1 f1) (ho2 : Owns W B xs2 d2 f2) (ht1 : aggT P t1 xs1.length = true) (hl1 : xs1.length = o1.length) (ht2 : aggT P t2 xs2.length = true) (hl2 : xs2.length = o2.length) (hne : r1 ≠ r2) (hr1 : w.heap.size <= r1) (hr2 : w.heap.size <= r2) (hB1 : r1 < B) (hB2 : r2 < B) (hwB : w.heap.size <= B) :
    ∃ W1 W2, Stores P t1 ⟨r1, 0, none⟩ (.agg ⟨xs1⟩) W W1 /\ Chg [r1] W W1 /\ Stores P t2 ⟨r2, 0, none⟩ (.agg ⟨xs2⟩) W1 W2 /\ Loads P t1 ⟨r1, 0, none⟩ (.agg ⟨xs1⟩) W2 /\ Loads P t2 ⟨r2, 0, none⟩ (.agg ⟨xs2⟩) W2 /\ Owns W2 w.heap.size xs1 d1 f1 /\ Owns W2 w.heap.size xs2 d2 f2 /\ Ext w W2 := by
  obtain ⟨W1, st1, hb1', ch1, _⟩ := hb1.storeA0 (P := P) (t := t1) (xs := xs1) ht1 hl1 ho1.reps.cells1
  obtain ⟨W2, st2, hb2', ch2, _⟩ := (hb2.chg ch1 (by simp; omega)).storeA0 (P := P) (t := t2) (xs := xs2) ht2 hl2 ho2.reps.cells1
  exact ⟨W1, W2, st1, ch1, st2, (hb1'.chg ch2 (by simp; omega)).loadA0 ht1, hb2'.loadA0 ht2, ((ho1.chg1 ch1 hB1).chg1 ch2 hB2).mono hwB, ((ho2.chg1 ch1 hB1).chg1 ch2 hB2).mono hwB, (X.chg ch1 (by simp; exact hr1)).chg ch2 (by simp; exact hr2)⟩
def rr (N : Int) (D : Nat) (m : Int) : Int := if modeOk m then rround N D m else 0
def restR (N : Int) (D : Nat) (m : Int) : List D0 := redR (N * ((1 : Nat) : Int) + -(rround N D m) * (D : Int)) (D * 1)
def rs (N : Int) (D : Nat) (m : Int) : List D0 := if modeOk m then restR N D m else rat0
theorem one_len1 : (digs 1).length <= 1 := by rw [digs_one]; decide
theorem redR_int {z : Int} (h : (digs z.natAbs).length <= 18) : redR z 1 = rmk z 1 := by
  have h1 : redN z 1 = z := by
    have h2 : Nat.gcd z.natAbs 1 = 1 := Nat.gcd_one_right _
    unfold redN
    rw [h2, Nat.div_one]
    split <;> omega
  have h2 : redD z 1 = 1 := by
    have h2 : Nat.gcd z.natAbs 1 = 1 := Nat.gcd_one_right _
    unfold redD
    rw [h2]
  rw [redR_small h (Nat.le_trans one_len1 (by decide)), h1, h2]
theorem rmk_int_ok {z : Int} (h : (digs z.natAbs).length <= 18) : ratOk (rmk z 1) = true := ratOk_rmk (by decide) (Nat.gcd_one_right _) h (Nat.le_trans one_len1 (by decide))
end Go.Proofs.YtbgokfhcgcoipaaGreat
namespace Go.Proofs.YtbgokfhcgcoipaaGreat
open Go Go.Proofs.YtbgokfhcgcoipaaGreat.Sx
def wtOk (x : Int) : Bool := decide (0 <= x /\ x <= 1000000000)
def wOk (ws : List Int) : Bool := decide (1 <= ws.length /\ ws.length <= 30) && ws.all wtOk && decide (0 < ws.sum)
theorem wt_getD {ws : List Int} {k : Nat} (hk : k < ws.length) : ws.getD k 0 ∈ ws := by
  rw [List.getD_eq_getElem?_getD, List.getElem?_eq_getElem hk]; exact List.getElem_mem hk
theorem sum_take_succ {ws : List Int} {k : Nat} (hk : k < ws.length) : (ws.take (k + 1)).sum = (ws.take k).sum + ws.getD k 0 := by
  rw [List.take_succ_eq_append_getElem hk, List.sum_append, List.getD_eq_getElem?_getD, List.getElem?_eq_getElem hk]
  simp
theorem wt_sum {ws : List Int} (h : ∀ x ∈ ws, 0 <= x /\ x <= 1000000000) : 0 <= ws.sum /\ ws.sum <= 1000000000 * (ws.length : Int) := by
  induction ws with
  | nil => simp
  | cons x r ih =>
    have h1 := h x List.mem_cons_self
    have h2 := ih fun y hy => h y (List.mem_cons_of_mem _ hy)
    rw [List.sum_cons, List.length_cons]
    push_cast
    omega
theorem wOk_parts {ws : List Int} (h : wOk ws = true) : 1 <= ws.length /\ ws.length <= 30 /\ (∀ x ∈ ws, 0 <= x /\ x <= 1000000000) /\ 0 < ws.sum := by
  simp only [wOk, Bool.and_eq_true, decide_eq_true_eq, List.all_eq_true, wtOk] at h
  exact ⟨h.1.1.1, h.1.1.2, h.1.2, h.2⟩
theorem wOk_no {ws : List Int} {k : Nat} (hk : k < ws.length) (h : wtOk (ws.getD k 0) = false) : wOk ws = false := by
  have : ws.all wtOk = false := by
    rw [List.all_eq_false]
    exact ⟨_, wt_getD hk, by rw [h]; simp⟩
  simp [wOk, this]
theorem wt_all {ws : List Int} (h : ∀ j < ws.length, wtOk (ws.getD j 0) = true) : (∀ x ∈ ws, 0 <= x /\ x <= 1000000000) /\ ws.all wtOk = true := by
  have e : ∀ x ∈ ws, wtOk x = true := fun x hx => by
    obtain ⟨i, hi, rfl⟩ := List.getElem_of_mem hx
    have := h i hi
    rwa [List.getD_eq_getElem?_getD, List.getElem?_eq_getElem hi] at this
  exact ⟨fun x hx => by simpa [wtOk] using e x hx, List.all_eq_true.2 e⟩
theorem wt_pre {ws : List Int} {k : Nat} (h : ∀ j < k, wtOk (ws.getD j 0) = true) (hk : k <= ws.length) : ∀ x ∈ ws.take k, 0 <= x /\ x <= 1000000000 := fun x hx => by
  obtain ⟨i, hi, rfl⟩ := List.getElem_of_mem hx
  rw [List.length_take] at hi
  have := h i (by omega)
  rw [List.getD_eq_getElem?_getD, List.getElem?_eq_getElem (by omega)] at this
  rw [List.getElem_take]
  simpa [wtOk] using this
theorem impl_WeightsOk_c {w : World} {p : Option Addr} {n c : Nat} {ws : List Int} (h : IntsR w p n c ws) : Ret P n_impl_WeightsOk [.slice p n c] w fun v w' => v = .bool (wOk ws) /\ w' = w := by
  have hl := h.1
  refine impl_WeightsOk_ret ?_
  unfold impl_WeightsOk
  have no : ¬ (1 <= n /\ n <= 30) -> Value.bool false = .bool (wOk ws) /\ w = w := fun hn => by
    have : wOk ws = false := by rw [wOk, hl, decide_eq_false hn]; rfl
    rw [this]; exact ⟨rfl, rfl⟩
  refine ifD (fun h1 => ifT (no (by omega))) (fun h1 => ifD (fun h2 => no (by omega)) (fun h2 => ?_))
  unfold impl_WeightsOk_j0
  refine ⟨fun t i W => ∃ k : Nat, i = k /\ k <= n /\ W = w /\ t = (ws.take k).sum /\ ∀ j < k, wtOk (ws.getD j 0) = true, fun _ i _ => n - i.toNat, ⟨0, rfl, by omega, rfl, rfl, fun j hj => by omega⟩, ?_⟩
  rintro junk W t i ⟨k, rfl, hk, rfl, rfl, hall⟩
  refine ifD (fun hlt => ?_) (fun hge => ?_)
  · obtain ⟨a, rfl, hld⟩ := ints_at h (i := (k : Int)) (by omega) hlt
    refine ⟨⟨by omega, hlt⟩, _, hld, ?_⟩
    rw [Int.toNat_natCast]
    have bad : wtOk (ws.getD k 0) = false -> Value.bool false = .bool (wOk ws) /\ W = W := fun hb => by
      rw [wOk_no (by omega) hb]; exact ⟨rfl, rfl⟩
    refine ifD (fun h3 => ifT (bad (by simp only [wtOk, decide_eq_false_iff_not]; omega))) (fun h3 => ifD (fun h4 => bad (by simp only [wtOk, decide_eq_false_iff_not]; omega)) (fun h4 => ?_))
    have hs := wt_sum (wt_pre hall (by omega))
    rw [List.length_take] at hs
    refine exW ⟨by omega, by omega⟩ (exW ⟨by omega, by omega⟩ ⟨⟨k + 1, by omega, by omega, rfl, ?_, fun j hj => ?_⟩, ?_⟩)
    · rw [sum_take_succ (by omega)]
    · by_cases e : j = k
      · subst e; simp only [wtOk, decide_eq_true_eq]; omega
      · exact hall j (by omega)
    · show n - ((k : Int) + 1).toNat < n - (k : Int).toNat
      omega
  · have hkn : k = n := by omega
    subst hkn
    have hall2 := wt_all (ws := ws) fun j hj => hall j (by omega)
    rw [List.take_of_length_le (by omega)]
    refine ⟨?_, rfl⟩
    rw [wOk, hall2.2, hl, decide_eq_true (show 1 <= k /\ k <= 30 by omega)]
    rfl
theorem spec_l12Sum_c {w : World} {p : Option Addr} {n c : Nat} {ws : List Int} (h : IntsR w p n c ws) (hw : ∀ x ∈ ws, 0 <= x /\ x <= 1000000000) (hn : n <= 1000) : Ret P n_spec_l12Sum [.slice p n c] w fun v w' => v = .int .i64 ws.sum /\ w' = w := by
  have hl := h.1
  refine spec_l12Sum_ret ?_
  unfold spec_l12Sum
  refine ⟨fun t i W => ∃ k : Nat, i = k /\ k <= n /\ W = w /\ t = (ws.take k).sum, fun _ i _ => n - i.toNat, ⟨0, rfl, by omega, rfl, rfl⟩, ?_⟩
  rintro junk W t i ⟨k, rfl, hk, rfl, rfl⟩
  refine ifD (fun hlt => ?_) (fun hge => ?_)
  · obtain ⟨a, rfl, hld⟩ := ints_at h (i := (k : Int)) (by omega) hlt
    refine ⟨⟨by omega, hlt⟩, _, hld, ?_⟩
    rw [Int.toNat_natCast]
    have hs := wt_sum (ws := ws.take k) fun x hx => hw x (List.mem_of_mem_take hx)
    have hx := hw _ (wt_getD (ws := ws) (k := k) (by omega))
    rw [List.length_take] at hs
    refine exW ⟨by omega, by omega⟩ (exW ⟨by omega, by omega⟩ ⟨⟨k + 1, by omega, by omega, rfl, ?_⟩, ?_⟩)
    · rw [sum_take_succ (by omega)]
    · show n - ((k : Int) + 1).toNat < n - (k : Int).toNat
      omega
  · rw [List.take_of_length_le (by omega)]
    exact ⟨rfl, rfl⟩
theorem spec_WeightsOk_c {w : World} {p : Option Addr} {n c : Nat} {ws : List Int} (h : IntsR w p n c ws) : Ret P n_spec_WeightsOk [.slice p n c] w fun v w' => v = .bool (wOk ws) /\ w' = w := by
  have hl := h.1
  refine spec_WeightsOk_ret ?_
  unfold spec_WeightsOk
  refine Ret.at (spec_l01In_c _ _ _ w) ?_
  rintro v w1 ⟨rfl, rfl⟩
  refine ⟨_, rfl, ifN (fun h1 => ?_) (fun h1 => ?_)⟩
  · have : wOk ws = false := by
      have h2 := of_decide_eq_false h1
      rw [wOk, hl, decide_eq_false (by omega)]; rfl
    rw [this]; exact ⟨rfl, rfl⟩
  · have h2 := of_decide_eq_true h1
    refine ⟨fun i W => ∃ k : Nat, i = k /\ k <= n /\ W = w1 /\ ∀ j < k, wtOk (ws.getD j 0) = true, fun i _ => n - i.toNat, ⟨0, rfl, by omega, rfl, fun j hj => by omega⟩, ?_⟩
    rintro junk W i ⟨k, rfl, hk, rfl, hall⟩
    refine ifD (fun hlt => ?_) (fun hge => ?_)
    · obtain ⟨a, rfl, hld⟩ := ints_at h (i := (k : Int)) (by omega) hlt
      refine ⟨⟨by omega, hlt⟩, _, hld, ?_⟩
      rw [Int.toNat_natCast]
      refine Ret.at (spec_l01In_c _ _ _ W) ?_
      rintro v w2 ⟨rfl, rfl⟩
      refine ⟨_, rfl, ifN (fun h3 => ?_) (fun h3 => ?_)⟩
      · rw [wOk_no (by omega) h3]; exact ⟨rfl, rfl⟩
      · refine exW ⟨by omega, by omega⟩ ⟨⟨k + 1, by omega, by omega, rfl, fun j hj => ?_⟩, ?_⟩
        · by_cases e : j = k
          · subst e; exact h3
          · exact hall j (by omega)
        · show n - ((k : Int) + 1).toNat < n - (k : Int).toNat
          omega
    · have hkn : k = n := by omega
      subst hkn
      have hall2 := wt_all (ws := ws) fun j hj => hall j (by omega)
      refine Ret.at (spec_l12Sum_c h hall2.1 (by omega)) ?_
      rintro v w2 ⟨rfl, rfl⟩
      refine ⟨_, rfl, ?_, rfl⟩
      rw [wOk, hall2.2, hl, decide_eq_true (show 1 <= k /\ k <= 30 by omega)]
      rfl
theorem impl_sumInts_c {w : World} {p : Option Addr} {n c : Nat} {ws : List Int} (h : IntsR w p n c ws) (hw : ∀ x ∈ ws, 0 <= x /\ x <= 1000000000) (hn : n <= 1000) : Ret P n_impl_sumInts [.slice p n c] w fun v w' => v = .int .i64 ws.sum /\ w' = w := by
  have hl := h.1
  refine impl_sumInts_ret ?_
  unfold impl_sumInts
  refine ⟨fun t i W => ∃ k : Nat, i = k /\ k <= n /\ W = w /\ t = (ws.take k).sum, fun _ i _ => n - i.toNat, ⟨0, rfl, by omega, rfl, rfl⟩, ?_⟩
  rintro junk W t i ⟨k, rfl, hk, rfl, rfl⟩
  refine ifD (fun hlt => ?_) (fun hge => ?_)
  · obtain ⟨a, rfl, hld⟩ := ints_at h (i := (k : Int)) (by omega) hlt
    refine ⟨⟨by omega, hlt⟩, _, hld, ?_⟩
    rw [Int.toNat_natCast]
    have hs := wt_sum (ws := ws.take k) fun x hx => hw x (List.mem_of_mem_take hx)
    have hx := hw _ (wt_getD (ws := ws) (k := k) (by omega))
    rw [List.length_take] at hs
    refine exW ⟨by omega, by omega⟩ (exW ⟨by omega, by omega⟩ ⟨⟨k + 1, by omega, by omega, rfl, ?_⟩, ?_⟩)
    · rw [sum_take_succ (by omega)]
    · show n - ((k : Int) + 1).toNat < n - (k : Int).toNat
      omega
  · rw [List.take_of_length_le (by omega)]
    exact ⟨rfl, rfl⟩
theorem digs_small_len {x : Nat} (h : x <= 100000000000000000) : (digs x).length <= 2 := digs_len 2 (by omega)
theorem mulN_sign {x : Int} {u : Nat} (h : x * (u : Int) ≠ 0) : decide (x < 0) = decide (x * (u : Int) < 0) := by
  have hu : 0 < (u : Int) := by
    rcases Nat.eq_zero_or_pos u with h1 | h1
    · subst h1; simp at h
    · omega
  rw [Bool.eq_iff_iff, decide_eq_true_eq, decide_eq_true_eq]
  constructor
  · intro h1; exact Int.mul_neg_of_neg_of_pos h1 hu
  · intro h1
    rcases Int.lt_or_le x 0 with h2 | h2
    · exact h2
    · have := Int.mul_nonneg h2 (Int.le_of_lt hu); omega
def fsN (dx : List D0) (ws : List Int) (j : Nat) : Int := ival dx * ws.getD j 0
def fsOk (dx : List D0) (ws : List Int) (j : Nat) : Bool := wOk ws && (intOk dx && redOk (fsN dx ws j) ws.sum.toNat)
def fsR (dx : List D0) (ws : List Int) (j : Nat) : List D0 := if fsOk dx ws j then redR (fsN dx ws j) ws.sum.toNat else rat0
theorem fsR_code (dx : List D0) (ws : List Int) (j : Nat) : (fsR dx ws j).map D0.code = [.bool, .ints, .ints] := by
  unfold fsR; split
  · exact redR_code _ _
  · rfl
theorem fsR_yes {dx : List D0} {ws : List Int} {j : Nat} (h1 : wOk ws = true) (h2 : intOk dx = true) : fsOk dx ws j = redOk (fsN dx ws j) ws.sum.toNat /\ fsR dx ws j = redR (fsN dx ws j) ws.sum.toNat := by
  have e : fsOk dx ws j = redOk (fsN dx ws j) ws.sum.toNat := by rw [fsOk, h1, h2]; rfl
  refine ⟨e, ?_⟩
  unfold fsR
  rw [e]
  split
  · rfl
  · rename_i h; unfold redR; rw [if_neg h]
theorem impl_FairShare_c {w : World} {xs : List Value} {dx : List D0} {p : Option Addr} {n c j : Nat} {ws : List Int} (h : Reps w xs dx) (hc : dx.map D0.code = [.bool, .ints]) (hw : IntsR w p n c ws) (hj : j < n) :
    Ret P n_impl_FairShare [.agg ⟨xs⟩, .slice p n c, .int .i64 j] w fun v w' => ∃ vs f, v = .tuple #[.agg ⟨vs⟩, .bool (fsOk dx ws j)] /\ Owns w' w.heap.size vs (fsR dx ws j) f /\ f.Nodup /\ Ext w w' := by
  have hr := h
  obtain ⟨b, ap, an, ac, az, rfl, rfl, hi⟩ := open_Signed h hc
  have hl := hw.1
  refine impl_FairShare_ret ?_
  unfold impl_FairShare
  intro r w1 hn1 r1 w2 hn2
  have e1 := hn1.r_eq; have e2 := hn2.r_eq; have z1 := hn1.size; have z2 := hn2.size
  have X := hn1.ext.trans hn2.ext
  have b0 := hn1.blk.ext hn2.ext; have b1 := hn2.blk
  refine Ret.at (impl_WeightsOk_c (hw.ext X)) ?_
  rintro v w3 ⟨rfl, rfl⟩
  have zero : ∀ W, Ext w3 W -> fsOk [.bool b, .ints az] ws j = false -> ∃ W1, Stores P T_impl_Rat ⟨r1, 0, none⟩ (.agg ⟨[.bool false, .slice none 0 0, .slice none 0 0]⟩) W W1 /\ ∃ (r0 : Bool) (r1_p : Option Addr) (r1_n : Nat) (r1_c : Nat) (r2_p : Option Addr) (r2_n : Nat) (r2_c : Nat), Loads P T_impl_Rat ⟨r1, 0, none⟩ (.agg ⟨[.bool r0, .slice r1_p r1_n r1_c, .slice r2_p r2_n r2_c]⟩) W1 /\
      ∃ vs f, Value.tuple #[.agg ⟨[.bool r0, .slice r1_p r1_n r1_c, .slice r2_p r2_n r2_c]⟩, .bool false] = .tuple #[.agg ⟨vs⟩, .bool (fsOk [.bool b, .ints az] ws j)] /\ Owns W1 w.heap.size vs (fsR [.bool b, .ints az] ws j) f /\ f.Nodup /\ Ext w W1 := by
    intro W hW hno
    have lW := hW.le
    obtain ⟨W', st', ld', ow', xx', _, _⟩ := agg_end (t := T_impl_Rat) (b1.ext hW) (X.trans hW) (by omega) (own_rat0 W W.heap.size) (by kernel_rfl) rfl (by omega) (by omega)
    refine ⟨W', st', _, _, _, _, _, _, _, ld', _, [], by rw [hno], ?_, List.nodup_nil, xx'⟩
    · rw [fsR, hno]; exact ow'
  refine ⟨_, rfl, ifN (fun hwn => ifT (ifT (ifT (zero _ (Ext.refl _) (by rw [fsOk, hwn]; rfl))))) (fun hwy => ifD (fun h1 => by omega) (fun _ => ifD (fun h1 => by omega) (fun _ => ?_)))⟩
  obtain ⟨g1, g2, g3, g4⟩ := wOk_parts hwy
  refine ⟨_, _, _, _, b0.loadA0 (by kernel_rfl), ?_⟩
  refine Ret.at (impl_IntOk_c (hr.ext X) hc) ?_
  rintro v w4 ⟨rfl, y4⟩
  refine ⟨_, rfl, ifN (fun hno => zero w4 y4 (by rw [fsOk, hwy, hno]; rfl)) (fun hok => ?_)⟩
  obtain ⟨hen, b', z', hbz, hcz, hz50⟩ := intOk_enc hok
  simp only [List.cons.injEq, D0.bool.injEq, D0.ints.injEq, and_true] at hbz
  obtain ⟨rfl, rfl⟩ := hbz
  obtain ⟨x, hx⟩ : ∃ x, ival [.bool b, .ints az] = x := ⟨_, rfl⟩
  rw [hx] at hen
  simp only [enc, List.cons.injEq, D0.bool.injEq, D0.ints.injEq, and_true] at hen
  obtain ⟨rfl, rfl⟩ := hen
  obtain ⟨q1, q2⟩ := fsR_yes (j := j) hwy hok
  rw [fsN, hx] at q1 q2
  rw [q1, q2]
  obtain ⟨u, hu⟩ : ∃ u : Nat, ws.getD j 0 = u := ⟨(ws.getD j 0).toNat, by have := (g3 _ (wt_getD (ws := ws) (k := j) (by omega))).1; omega⟩
  obtain ⟨D, hD⟩ : ∃ D : Nat, ws.sum = D := ⟨ws.sum.toNat, by omega⟩
  have hub := (g3 _ (wt_getD (ws := ws) (k := j) (by omega))).2
  have hsb := (wt_sum g3).2
  rw [hu]
  rw [hu] at hub
  rw [hD] at g4 hsb ⊢
  rw [Int.toNat_natCast]
  unfold impl_FairShare_j0
  have Dr := Ext.drew w4
  have Y := y4.trans Dr
  have X4 := X.trans Y
  have lY := Y.le
  have b0 := b0.ext Y; have b1 := b1.ext Y
  obtain ⟨a, hpa, hld⟩ := ints_at (hw.ext X4) (i := (j : Int)) (by omega) (by omega)
  subst hpa
  rw [Int.toNat_natCast, hu] at hld
  have hld2 : ∀ W, Ext w4.drew W -> Loads P T_int (a.add ((j : Int).toNat * 1)) (.int .i64 (u : Int)) W := fun W hW => by
    obtain ⟨a', hpa', hl'⟩ := ints_at ((hw.ext X4).ext hW) (i := (j : Int)) (by omega) (by omega)
    cases hpa'
    rw [Int.toNat_natCast, hu] at hl'
    rw [Int.toNat_natCast]
    exact hl'
  refine ⟨_, fun W hW => (b0.ext hW).loadAt 0 rfl (by kernel_rfl) rfl, _, _, _, fun W hW => (b0.ext hW).loadAt 1 rfl (by kernel_rfl) rfl, ⟨by omega, by omega⟩, _, hld2, ?_⟩
  refine Ret.at (impl_NatOf_c (n := (u : Int)) (by omega) (by omega)) ?_
  rintro v w5 ⟨p5, n5, c5, hv, o5, y5⟩
  subst hv
  rw [Int.toNat_natCast] at o5
  have lu := digs_small_len (x := u) (by omega)
  have o5l := o5.ints.1
  have hil := hi.1
  refine ⟨_, _, _, rfl, y5, ?_⟩
  refine Ret.at (impl_natMul_c (hi.ext (X4.trans y5)) o5.ints (digs_limbs _) (digs_limbs _) (by omega) (by omega)) ?_
  rintro v w6 ⟨p6, n6, c6, hv, o6, y6⟩
  subst hv
  rw [val_mul] at o6
  have pl := prod_len (x := x.natAbs) (y := u) (i := 50) (j := 2) (by omega) (by omega)
  have eN : (x * (u : Int)).natAbs = x.natAbs * u := by rw [Int.natAbs_mul, Int.natAbs_natCast]
  refine ⟨_, _, _, rfl, y6, ?_⟩
  have l6 := o6.ints.1
  refine Ret.at (impl_signed_c (neg := decide (x < 0)) l6) ?_
  rintro v w7 ⟨hv, y7⟩
  subst hv
  have hs : Reps w7 [.bool (decide (x < 0) && !(digs (x.natAbs * u)).isEmpty), .slice p6 n6 c6] (enc (x * (u : Int))) := by
    rw [<- mkS_of (b := decide (x < 0)) (m := x.natAbs * u) eN.symm (fun hne => mulN_sign hne)]
    exact ⟨rfl, ⟨_, _, _, rfl, o6.ints.ext y7⟩, trivial⟩
  refine ⟨_, _, _, _, rfl, ?_⟩
  refine Ret.at (impl_sumInts_c (hw.ext (((X4.trans y5).trans y6).trans y7)) g3 (by omega)) ?_
  rintro v w8 ⟨rfl, rfl⟩
  refine ⟨_, rfl, ?_⟩
  rw [hD]
  refine Ret.at (impl_NatOf_c (n := (D : Int)) (by omega) (by omega)) ?_
  rintro v w9 ⟨p9, n9, c9, hv, o9, y9⟩
  subst hv
  rw [Int.toNat_natCast] at o9
  have lD := digs_small_len (x := D) (by omega)
  have l9 := o9.ints.1
  refine ⟨_, _, _, rfl, ?_⟩
  refine Ret.at (impl_reduce_c (hs.ext y9) o9.ints (by omega) (by rw [eN]; omega) (by omega)) ?_
  rintro v w99 ⟨vs9, f9, hv, ho9, nd9, y99⟩
  subst hv
  obtain ⟨zb, zp, zn, zc, zz, zp2, zn2, zc2, zz2, rfl, _, _, _⟩ := open_Rat ho9.reps (redR_code _ _)
  have Y9 := (((y5.trans y6).trans y7).trans y9)
  have lY9 := Y9.le
  obtain ⟨W', st', ld', ow', xx', _, _⟩ := agg_end (t := T_impl_Rat) ((b1.ext Y9).ext y99) ((X4.trans Y9).trans y99) (by omega) ho9 (by kernel_rfl) rfl (by omega) (by omega)
  exact ⟨_, _, _, _, _, _, _, _, rfl, W', st', _, _, _, _, _, _, _, ld', _, f9, rfl, ow', nd9, xx'⟩
theorem spec_FairShare_c {w : World} {xs : List Value} {dx : List D0} {p : Option Addr} {n c j : Nat} {ws : List Int} (h : Reps w xs dx) (hc : dx.map D0.code = [.bool, .ints]) (hw : IntsR w p n c ws) (hj : j < n) :
    Ret P n_spec_FairShare [.agg ⟨xs⟩, .slice p n c, .int .i64 j] w fun v w' => ∃ vs f, v = .tuple #[.agg ⟨vs⟩, .bool (fsOk dx ws j)] /\ Owns w' w.heap.size vs (fsR dx ws j) f /\ f.Nodup /\ Ext w w' := by
  have hr := h
  obtain ⟨b, ap, an, ac, az, rfl, rfl, hi⟩ := open_Signed h hc
  have hl := hw.1
  refine spec_FairShare_ret ?_
  unfold spec_FairShare
  intro r w1 hn1 r1 w2 hn2
  have e1 := hn1.r_eq; have e2 := hn2.r_eq; have z1 := hn1.size; have z2 := hn2.size
  have X := hn1.ext.trans hn2.ext
  have b0 := hn1.blk.ext hn2.ext; have b1 := hn2.blk
  refine Ret.at (spec_WeightsOk_c (hw.ext X)) ?_
  rintro v w3 ⟨rfl, rfl⟩
  have zero : ∀ W, Ext w3 W -> fsOk [.bool b, .ints az] ws j = false -> ∃ W1, Stores P T_impl_Rat ⟨r1, 0, none⟩ (.agg ⟨[.bool false, .slice none 0 0, .slice none 0 0]⟩) W W1 /\ ∃ (r0 : Bool) (r1_p : Option Addr) (r1_n : Nat) (r1_c : Nat) (r2_p : Option Addr) (r2_n : Nat) (r2_c : Nat), Loads P T_impl_Rat ⟨r1, 0, none⟩ (.agg ⟨[.bool r0, .slice r1_p r1_n r1_c, .slice r2_p r2_n r2_c]⟩) W1 /\
      ∃ vs f, Value.tuple #[.agg ⟨[.bool r0, .slice r1_p r1_n r1_c, .slice r2_p r2_n r2_c]⟩, .bool false] = .tuple #[.agg ⟨vs⟩, .bool (fsOk [.bool b, .ints az] ws j)] /\ Owns W1 w.heap.size vs (fsR [.bool b, .ints az] ws j) f /\ f.Nodup /\ Ext w W1 := by
    intro W hW hno
    have lW := hW.le
    obtain ⟨W', st', ld', ow', xx', _, _⟩ := agg_end (t := T_impl_Rat) (b1.ext hW) (X.trans hW) (by omega) (own_rat0 W W.heap.size) (by kernel_rfl) rfl (by omega) (by omega)
    refine ⟨W', st', _, _, _, _, _, _, _, ld', _, [], by rw [hno], ?_, List.nodup_nil, xx'⟩
    · rw [fsR, hno]; exact ow'
  refine ⟨_, rfl, ifN (fun hwn => ifT (ifT (zero _ (Ext.refl _) (by rw [fsOk, hwn]; rfl)))) (fun hwy => ?_)⟩
  obtain ⟨g1, g2, g3, g4⟩ := wOk_parts hwy
  refine exW ⟨by omega, by omega⟩ ?_
  refine Ret.at (spec_l01In_c _ _ _ w3) ?_
  rintro v w30 ⟨rfl, rfl⟩
  rw [decide_eq_true (show (0 : Int) <= (j : Int) /\ (j : Int) <= (n : Int) - 1 by omega)]
  refine ⟨_, rfl, ifN (fun hh => absurd hh (by simp)) (fun _ => ?_)⟩
  refine ⟨_, _, _, _, b0.loadA0 (by kernel_rfl), ?_⟩
  refine Ret.at (spec_IntOk_c (hr.ext X) hc) ?_
  rintro v w4 ⟨rfl, y4⟩
  refine ⟨_, rfl, ifN (fun hno => zero w4 y4 (by rw [fsOk, hwy, hno]; rfl)) (fun hok => ?_)⟩
  obtain ⟨hen, b', z', hbz, hcz, hz50⟩ := intOk_enc hok
  simp only [List.cons.injEq, D0.bool.injEq, D0.ints.injEq, and_true] at hbz
  obtain ⟨rfl, rfl⟩ := hbz
  obtain ⟨x, hx⟩ : ∃ x, ival [.bool b, .ints az] = x := ⟨_, rfl⟩
  rw [hx] at hen
  simp only [enc, List.cons.injEq, D0.bool.injEq, D0.ints.injEq, and_true] at hen
  obtain ⟨rfl, rfl⟩ := hen
  obtain ⟨q1, q2⟩ := fsR_yes (j := j) hwy hok
  rw [fsN, hx] at q1 q2
  rw [q1, q2]
  obtain ⟨u, hu⟩ : ∃ u : Nat, ws.getD j 0 = u := ⟨(ws.getD j 0).toNat, by have := (g3 _ (wt_getD (ws := ws) (k := j) (by omega))).1; omega⟩
  obtain ⟨D, hD⟩ : ∃ D : Nat, ws.sum = D := ⟨ws.sum.toNat, by omega⟩
  have hub := (g3 _ (wt_getD (ws := ws) (k := j) (by omega))).2
  have hsb := (wt_sum g3).2
  rw [hu]
  rw [hu] at hub
  rw [hD] at g4 hsb ⊢
  rw [Int.toNat_natCast]
  unfold spec_FairShare_j0
  have Dr := Ext.drew w4
  have Y := y4.trans Dr
  have X4 := X.trans Y
  have lY := Y.le
  have b0 := b0.ext Y; have b1 := b1.ext Y
  obtain ⟨a, hpa, hld⟩ := ints_at (hw.ext X4) (i := (j : Int)) (by omega) (by omega)
  subst hpa
  rw [Int.toNat_natCast, hu] at hld
  have hld2 : ∀ W, Ext w4.drew W -> Loads P T_int (a.add ((j : Int).toNat * 1)) (.int .i64 (u : Int)) W := fun W hW => by
    obtain ⟨a', hpa', hl'⟩ := ints_at ((hw.ext X4).ext hW) (i := (j : Int)) (by omega) (by omega)
    cases hpa'
    rw [Int.toNat_natCast, hu] at hl'
    rw [Int.toNat_natCast]
    exact hl'
  refine ⟨_, fun W hW => (b0.ext hW).loadAt 0 rfl (by kernel_rfl) rfl, _, _, _, fun W hW => (b0.ext hW).loadAt 1 rfl (by kernel_rfl) rfl, ⟨by omega, by omega⟩, _, hld2, ?_⟩
  refine Ret.at (spec_NatOf_c (n := (u : Int)) (by omega) (by omega)) ?_
  rintro v w5 ⟨p5, n5, c5, hv, o5, y5⟩
  subst hv
  rw [Int.toNat_natCast] at o5
  have lu := digs_small_len (x := u) (by omega)
  have o5l := o5.ints.1
  have hil := hi.1
  refine ⟨_, _, _, rfl, y5, ?_⟩
  refine Ret.at (spec_l02Mul_c (hi.ext (X4.trans y5)) o5.ints (digs_limbs _) (digs_limbs _) (by omega) (by omega)) ?_
  rintro v w6 ⟨p6, n6, c6, hv, o6, y6⟩
  subst hv
  rw [val_mul] at o6
  have pl := prod_len (x := x.natAbs) (y := u) (i := 50) (j := 2) (by omega) (by omega)
  have eN : (x * (u : Int)).natAbs = x.natAbs * u := by rw [Int.natAbs_mul, Int.natAbs_natCast]
  refine ⟨_, _, _, rfl, y6, ?_⟩
  have l6 := o6.ints.1
  refine Ret.at (spec_l12Sum_c (hw.ext ((X4.trans y5).trans y6)) g3 (by omega)) ?_
  rintro v w8 ⟨rfl, rfl⟩
  refine ⟨_, rfl, Ext.refl _, ?_⟩
  rw [hD]
  refine Ret.at (spec_NatOf_c (n := (D : Int)) (by omega) (by omega)) ?_
  rintro v w9 ⟨p9, n9, c9, hv, o9, y9⟩
  subst hv
  rw [Int.toNat_natCast] at o9
  have lD := digs_small_len (x := D) (by omega)
  have l9 := o9.ints.1
  refine ⟨_, _, _, rfl, y9, ?_⟩
  refine Ret.at (spec_l05Low_c (n := x * (u : Int)) (by rw [eN]; exact o6.ints.ext y9) o9.ints (fun hne => mulN_sign hne) (by omega) (by omega) (by omega)) ?_
  rintro v w99 ⟨vs9, f9, hv, ho9, nd9, y99⟩
  subst hv
  obtain ⟨zb, zp, zn, zc, zz, zp2, zn2, zc2, zz2, rfl, _, _, _⟩ := open_Rat ho9.reps (redR_code _ _)
  have Y9 := ((y5.trans y6).trans y9)
  have lY9 := Y9.le
  obtain ⟨W', st', ld', ow', xx', _, _⟩ := agg_end (t := T_impl_Rat) ((b1.ext Y9).ext y99) ((X4.trans Y9).trans y99) (by omega) ho9 (by kernel_rfl) rfl (by omega) (by omega)
  exact ⟨_, _, _, _, _, _, _, _, rfl, W', st', _, _, _, _, _, _, _, ld', _, f9, rfl, ow', nd9, xx'⟩
end Go.Proofs.YtbgokfhcgcoipaaGreat
namespace Go.Proofs.YtbgokfhcgcoipaaGreat
open Go Go.Proofs.YtbgokfhcgcoipaaGreat.Sx
def nsN (ws : List Int) : List Nat := ws.map Int.toNat
def sgI (b : Bool) (k : Nat) : Int := if b then -(k : Int) else (k : Int)
def shOk (dx : List D0) (ws : List Int) : Bool := wOk ws && (intOk dx && (List.range ws.length).all fun j => fsOk dx ws j)
def shE (dx : List D0) (ws : List Int) (t j : Nat) : List D0 := enc (sgI (decide (ival dx < 0)) (shP (ival dx).natAbs (nsN ws) t j))
def shMiss (dx : List D0) (ws : List Int) : Nat := shM (ival dx).natAbs (nsN ws)
def shL (dx : List D0) (ws : List Int) (t : Nat) : List (List D0) := (List.range ws.length).map fun j => shE dx ws t j
def shT (dx : List D0) (ws : List Int) : Bool × List (List D0) := if shOk dx ws then (true, shL dx ws (shMiss dx ws)) else (false, [])
theorem nsN_len (ws : List Int) : (nsN ws).length = ws.length := by simp [nsN]
theorem nsN_sum {ws : List Int} (h : ∀ x ∈ ws, 0 <= x /\ x <= 1000000000) : (((nsN ws).sum : Nat) : Int) = ws.sum := by
  induction ws with
  | nil => rfl
  | cons x r ih =>
    have h1 := h x List.mem_cons_self
    have h2 := ih fun y hy => h y (List.mem_cons_of_mem _ hy)
    show (((x.toNat :: nsN r).sum : Nat) : Int) = _
    rw [List.sum_cons, List.sum_cons, <- h2]
    push_cast
    omega
theorem nsN_get {ws : List Int} (h : ∀ x ∈ ws, 0 <= x /\ x <= 1000000000) {j : Nat} (hj : j < ws.length) : (((nsN ws).getD j 0 : Nat) : Int) = ws.getD j 0 := by
  have h1 := h _ (wt_getD hj)
  unfold nsN
  rw [List.getD_eq_getElem?_getD, List.getElem?_map, List.getElem?_eq_getElem hj]
  rw [List.getD_eq_getElem?_getD, List.getElem?_eq_getElem hj] at h1 ⊢
  simp only [Option.map_some, Option.getD_some] at h1 ⊢
  omega
theorem shQ_get {m : Nat} {ns : List Nat} {j : Nat} (hj : j < ns.length) : (shQ m ns).getD j 0 = m * ns.getD j 0 / ns.sum := by
  unfold shQ
  rw [List.getD_eq_getElem?_getD, List.getElem?_map, List.getD_eq_getElem?_getD, List.getElem?_eq_getElem hj]; rfl
theorem shR_get {m : Nat} {ns : List Nat} {j : Nat} (hj : j < ns.length) : (shR m ns).getD j 0 = m * ns.getD j 0 % ns.sum := by
  unfold shR
  rw [List.getD_eq_getElem?_getD, List.getElem?_map, List.getD_eq_getElem?_getD, List.getElem?_eq_getElem hj]; rfl
theorem sumN_take_succ {l : List Nat} {k : Nat} (hk : k < l.length) : (l.take (k + 1)).sum = (l.take k).sum + l.getD k 0 := by
  rw [List.take_succ_eq_append_getElem hk, List.sum_append, List.getD_eq_getElem?_getD, List.getElem?_eq_getElem hk]
  simp
theorem sumN_take_le (l : List Nat) (k : Nat) : (l.take k).sum <= l.sum := by
  conv => rhs; rw [<- List.take_append_drop k l, List.sum_append]
  omega
theorem shM_len {m : Nat} {ns : List Nat} (h : 0 < ns.sum) : shM m ns <= ns.length := by
  rcases Nat.eq_zero_or_pos (shM m ns) with h0 | h0
  · omega
  · obtain ⟨h1, _⟩ := lack_pos (t := shM m ns - 1) h (shR_lt (m := m) h) (shM_eq h) (by omega)
    rw [ordS_len, shR_len] at h1
    omega
theorem shOk_no1 {dx : List D0} {ws : List Int} (h : wOk ws = false) : shT dx ws = (false, []) := by simp [shT, shOk, h]
theorem shOk_no2 {dx : List D0} {ws : List Int} (h : intOk dx = false) : shT dx ws = (false, []) := by simp [shT, shOk, h]
theorem shOk_no3 {dx : List D0} {ws : List Int} {j : Nat} (hj : j < ws.length) (h : fsOk dx ws j = false) : shT dx ws = (false, []) := by
  have : (List.range ws.length).all (fun j => fsOk dx ws j) = false := by
    rw [List.all_eq_false]
    exact ⟨j, List.mem_range.2 hj, by rw [h]; simp⟩
  simp [shT, shOk, this]
theorem shOk_yes {dx : List D0} {ws : List Int} (h1 : wOk ws = true) (h2 : intOk dx = true) (h3 : ∀ j < ws.length, fsOk dx ws j = true) : shT dx ws = (true, shL dx ws (shMiss dx ws)) := by
  have : (List.range ws.length).all (fun j => fsOk dx ws j) = true := by
    rw [List.all_eq_true]
    exact fun j hj => h3 j (List.mem_range.1 hj)
  simp [shT, shOk, this, h1, h2]
theorem shL_code (dx : List D0) (ws : List Int) (t : Nat) : ∀ x ∈ shL dx ws t, x.map D0.code = [.bool, .ints] := fun x hx => by
  obtain ⟨j, _, rfl⟩ := List.mem_map.1 hx
  exact enc_code _
theorem shT_code (dx : List D0) (ws : List Int) : ∀ x ∈ (shT dx ws).2, x.map D0.code = [.bool, .ints] := fun x hx => by
  unfold shT at hx
  split at hx
  · exact shL_code _ _ _ x hx
  · simp at hx
def numL (n : Nat) (k : Nat -> Nat) : List (List D0) := (List.range n).map fun j => [.ints (digs (k j))]
theorem numL_get {n : Nat} {k : Nat -> Nat} {j : Nat} (hj : j < n) : (numL n k)[j]? = some [.ints (digs (k j))] := by
  unfold numL
  rw [List.getElem?_map, List.getElem?_range hj]; rfl
theorem numL_set {n : Nat} {k k' : Nat -> Nat} {i v : Nat} (hi : i < n) (h : ∀ j < n, k' j = if j = i then v else k j) : (numL n k).set i [.ints (digs v)] = numL n k' := by
  apply List.ext_getElem?
  intro j
  unfold numL
  rw [List.getElem?_set]
  by_cases hj : j < n
  · rw [List.getElem?_map, List.getElem?_map, List.getElem?_range hj, List.length_map, List.length_range]
    have := h j hj
    by_cases e : i = j
    · subst e; rw [if_pos rfl, if_pos hi]; simp [this]
    · rw [if_neg e]; simp [this, Ne.symm e]
  · rw [List.getElem?_map, List.getElem?_map, List.getElem?_eq_none (by simpa using hj)]
    by_cases e : i = j
    · subst e; omega
    · rw [if_neg e]; rfl
theorem numL_len (n : Nat) (k : Nat -> Nat) : (numL n k).length = n := by simp [numL]
theorem range_map_succ {α : Type} (f : Nat -> α) (k : Nat) : (List.range (k + 1)).map f = (List.range k).map f ++ [f k] := by rw [List.range_succ, List.map_append]; rfl
end Go.Proofs.YtbgokfhcgcoipaaGreat
namespace Go.Proofs.YtbgokfhcgcoipaaGreat
open Go Go.Proofs.YtbgokfhcgcoipaaGreat.Sx
theorem OwnRows_pushG {P : Program} {w : World} {B : Nat} {t e : TypeId} {z : Value} {k bytes : Nat} {p : Option Addr} {n c r : Nat} {l : List (List D0)} {f fx : List Nat} {cs : List Value} {x : List D0} (h : OwnRows w B e k p n c l f)
    (hT : sliceT P t e z k bytes) (hb : B <= w.heap.size) (hr : Blk w r e cs) (hl : cs.length = k) (ho : Owns w B cs x fx) (hfx : fx.Nodup) (hdis : ∀ q ∈ fx, q ∉ f)
    (hbytes : (n + 1) * bytes <= 140737488355328) (hby : 1 <= bytes) :
    ∃ p' c' w' f', Appends P [t, t] [.slice p n c, .slice (some ⟨r, 0, none⟩) 1 1] (.slice p' (n + 1) c') w w' /\ OwnRows w' B e k p' (n + 1) c' (l ++ [x]) f' /\ Chg (p.map (·.block)).toList w w' /\
      (∀ q ∈ f', q ∈ f ∨ q ∈ fx ∨ w.heap.size <= q) /\ (p'.map (·.block) = p.map (·.block) ∨ ∀ q, p'.map (·.block) = some q -> w.heap.size <= q) := by
  obtain ⟨hln, css, fs, ha, hown, rfl, hnd⟩ := h
  obtain ⟨p', c', w', hrun, hown', hch, hp⟩ := hown.push1 hT hb hr hl ho.reps.cells1 hbytes hby
  have hpl : ∀ q ∈ (p.map (·.block)).toList, B <= q := fun q hq => (World.ownsRow.lt hown q (by cases p <;> simp_all [Value.ownBlock])).1
  have hnd1 := (List.nodup_append.1 hnd)
  have hpin : ∀ q ∈ fs.flatten, q ∉ (p.map (·.block)).toList := fun q hq hm => hnd1.2.2 q hm q hq rfl
  have hpx : ∀ q ∈ fx, q ∉ (p.map (·.block)).toList := fun q hq hm => hdis q hq (List.mem_append_left _ hm)
  have hlt : ∀ q ∈ fs.flatten ++ fx, q < w.heap.size := fun q hq => by
    rcases List.mem_append.1 hq with hq | hq
    · exact (ha.lt q hq).2
    · exact (ho.lt q hq).2
  have e : (fs ++ [fx]).flatten = fs.flatten ++ fx := by simp
  refine ⟨p', c', w', (p'.map (·.block)).toList ++ (fs ++ [fx]).flatten, hrun, ⟨by simp [hln], css ++ [cs], fs ++ [fx], (ha.chg hch hpin).snoc hl (ho.chg hch hpx), by simpa using hown', rfl, ?_⟩, hch, fun q hq => ?_, hp⟩
  rotate_left
  · rw [e] at hq
    rcases List.mem_append.1 hq with hq | hq
    · have hpa := opt_mem hq
      rcases hp with hp | hp
      · rw [hp] at hpa
        exact .inl (List.mem_append_left _ (mem_opt hpa))
      · exact .inr (.inr (hp q hpa))
    · rcases List.mem_append.1 hq with hq | hq
      · exact .inl (List.mem_append_right _ hq)
      · exact .inr (.inl hq)
  rw [e, List.nodup_append]
  refine ⟨by cases p' <;> simp, ?_, ?_⟩
  · rw [List.nodup_append]
    exact ⟨hnd1.2.1, hfx, fun a ha b hb e => hdis b hb (by rw [<- e]; exact List.mem_append_right _ ha)⟩
  · intro a ha b hb hab
    subst hab
    have hpa := opt_mem ha
    rcases hp with hp | hp
    · rw [hp] at hpa
      have ham : a ∈ (p.map (·.block)).toList := mem_opt hpa
      rcases List.mem_append.1 hb with hb | hb
      · exact hpin a hb ham
      · exact hpx a hb ham
    · have := hp a hpa
      have := hlt a hb
      omega
theorem OwnRows_pushF {P : Program} {w : World} {B : Nat} {t e : TypeId} {z : Value} {k bytes : Nat} {p : Option Addr} {n c r : Nat} {l : List (List D0)} {f fx : List Nat} {cs : List Value} {x : List D0} (h : OwnRows w B e k p n c l f)
    (hT : sliceT P t e z k bytes) (hb : B <= w.heap.size) (hr : Blk w r e cs) (hl : cs.length = k) (ho : Owns w B cs x fx) (hfx : fx.Nodup) (hdis : ∀ q ∈ fx, q ∉ f)
    (hbytes : (n + 1) * bytes <= 140737488355328) (hby : 1 <= bytes) :
    ∃ p' c' w' f', Appends P [t, t] [.slice p n c, .slice (some ⟨r, 0, none⟩) 1 1] (.slice p' (n + 1) c') w w' /\ OwnRows w' B e k p' (n + 1) c' (l ++ [x]) f' /\ Chg (p.map (·.block)).toList w w' /\
      (∀ q ∈ f', q ∈ f ∨ q ∈ fx ∨ w.heap.size <= q) := by
  obtain ⟨p', c', w', f', h1, h2, h3, h4, _⟩ := OwnRows_pushG h hT hb hr hl ho hfx hdis hbytes hby
  exact ⟨p', c', w', f', h1, h2, h3, h4⟩
end Go.Proofs.YtbgokfhcgcoipaaGreat
namespace Go.Proofs.YtbgokfhcgcoipaaGreat
open Go Go.Proofs.YtbgokfhcgcoipaaGreat.Sx
theorem nodup_swap {α : Type} {fs : List (List α)} {fi f' : List α} {i : Nat} (hi : fs[i]? = some fi) (h : fs.flatten.Nodup) (hf : f'.Nodup) (hd : ∀ y ∈ f', y ∈ fi ∨ y ∉ fs.flatten) : (fs.set i f').flatten.Nodup := by
  rw [set_split hi]
  have e := cons_at hi
  have h2 : (fs.take i ++ fi :: fs.drop (i + 1)).flatten.Nodup := by rw [<- e]; exact h
  rw [List.flatten_append, List.flatten_cons] at h2 ⊢
  obtain ⟨a1, a2, a3⟩ := List.nodup_append.1 h2
  obtain ⟨b1, b2, b3⟩ := List.nodup_append.1 a2
  have hin : ∀ y, y ∈ (fs.take i).flatten ∨ y ∈ (fs.drop (i + 1)).flatten -> y ∈ fs.flatten := fun y hy => by
    rw [e, List.flatten_append, List.flatten_cons]
    rcases hy with hy | hy
    · exact List.mem_append_left _ hy
    · exact List.mem_append_right _ (List.mem_append_right _ hy)
  have k1 : ∀ y ∈ f', y ∉ (fs.take i).flatten := fun y hy hm => by
    rcases hd y hy with h | h
    · exact a3 y hm y (List.mem_append_left _ h) rfl
    · exact h (hin y (.inl hm))
  have k2 : ∀ y ∈ f', y ∉ (fs.drop (i + 1)).flatten := fun y hy hm => by
    rcases hd y hy with h | h
    · exact b3 y h y hm rfl
    · exact h (hin y (.inr hm))
  refine List.nodup_append.2 ⟨a1, List.nodup_append.2 ⟨hf, b2, fun a ha b hb e => k2 a ha (by rw [e]; exact hb)⟩, fun a ha b hb e => ?_⟩
  rcases List.mem_append.1 hb with hb | hb
  · exact k1 b hb (by rw [<- e]; exact ha)
  · exact a3 a ha b (List.mem_append_right _ hb) e
theorem Sx.OwnRows.swap {w : World} {B : Nat} {e : TypeId} {k : Nat} {p : Option Addr} {n c : Nat} {l : List (List D0)} {f : List Nat} (h : OwnRows w B e k p n c l f) {i : Nat} {x : List D0} (hx : l[i]? = some x) :
    ∃ b xs cs zs fi, p = some ⟨b, 0, none⟩ /\ B <= b /\ b ∈ f /\ xs.length = i * k /\ cs.length = k /\ Blk w b e (xs ++ cs ++ zs) /\ Owns w B cs x fi /\ fi.Nodup /\ b ∉ fi /\ (∀ y ∈ fi, y ∈ f) /\
      ∀ w' cs' x' f', Chg [b] w w' -> cs'.length = k -> Blk w' b e (xs ++ cs' ++ zs) -> Owns w' B cs' x' f' -> f'.Nodup -> (∀ y ∈ f', y ∈ fi ∨ y ∉ f) -> ∃ f'', OwnRows w' B e k p n c (l.set i x') f'' /\ ∀ q ∈ f'', q ∈ f ∨ q ∈ f' := by
  obtain ⟨hl, css, fs, ha, ho, rfl, hnd⟩ := h
  have hi : i < l.length := (List.getElem?_eq_some_iff.1 hx).1
  obtain ⟨cs, fi, hcs, hfi, hk, how⟩ := ha.focus i x hx
  obtain ⟨hlen, hcl, hfl⟩ := ha.lens
  obtain ⟨b, ys, rfl, hb, hblk, hyl, hnc, hc, hy⟩ := ho.blk (by omega)
  have hsp := congrArg List.flatten (cons_at hcs)
  rw [List.flatten_append, List.flatten_cons] at hsp
  have hA : (css.take i).flatten.length = i * k := by
    rw [flat_len fun c hc => hlen c (List.mem_of_mem_take hc), List.length_take, Nat.min_eq_left (by omega)]
  have hys : ys = (css.take i).flatten ++ cs ++ ((css.drop (i + 1)).flatten ++ ys.drop (n * k)) := by
    conv => lhs; rw [<- List.take_append_drop (n * k) ys, hy, hsp]
    simp
  have hnd1 := List.nodup_append.1 hnd
  have hpin : ∀ q ∈ fs.flatten, q ∉ [b] := fun q hq hm => hnd1.2.2 q (by simpa using hm) q hq rfl
  have hfin : ∀ y ∈ fi, y ∈ fs.flatten := fun y hy => List.mem_flatten.2 ⟨fi, List.mem_of_getElem? hfi, hy⟩
  have hfnd : fi.Nodup := by
    have := hnd1.2.1
    rw [cons_at hfi, List.flatten_append, List.flatten_cons] at this
    exact (List.nodup_append.1 (List.nodup_append.1 this).2.1).1
  rw [hys] at hblk
  refine ⟨b, _, cs, _, fi, rfl, hb, by simp, hA, hk, hblk, how, hfnd, fun hm => hpin b (hfin b hm) (by simp), fun y hy => List.mem_append_right _ (hfin y hy), ?_⟩
  intro w' cs' x' f' hch hk' hblk' how' hnf hdis
  have ha' := AllO.put hk' how' i (ha.chg hch hpin)
  have hset : (css.set i cs').flatten = (css.take i).flatten ++ cs' ++ (css.drop (i + 1)).flatten := by
    rw [List.set_eq_take_append_cons_drop, if_pos (by omega), List.flatten_append, List.flatten_cons, List.append_assoc]
  have hdis2 : ∀ y ∈ f', y ∈ fi ∨ y ∉ fs.flatten := fun y hy => by
    rcases hdis y hy with h | h
    · exact .inl h
    · exact .inr fun hm => h (List.mem_append_right _ hm)
  refine ⟨[b] ++ (fs.set i f').flatten, ⟨by simpa using hl, _, _, ha', ?_, by simp, ?_⟩, ?_⟩
  · rw [hset]
    have hlen2 : ((css.take i).flatten ++ cs' ++ (css.drop (i + 1)).flatten).length = n * k := by
      rw [<- hset, flat_len (k := k) (fun c hc => by
        rcases List.mem_or_eq_of_mem_set hc with h1 | h1
        · exact hlen c h1
        · rw [h1]; exact hk')]
      rw [List.length_set, show css.length = n by omega]
    have hlen3 : ((css.take i).flatten ++ cs' ++ ((css.drop (i + 1)).flatten ++ ys.drop (n * k))).length = c * k := by
      have := congrArg List.length hys
      simp only [List.length_append] at this ⊢
      omega
    have := Own.of_blk' (n := n) hblk' hb hlen3 hnc hc
    have e2 : ((css.take i).flatten ++ cs' ++ ((css.drop (i + 1)).flatten ++ ys.drop (n * k))).take (n * k) = (css.take i).flatten ++ cs' ++ (css.drop (i + 1)).flatten := by
      rw [<- List.append_assoc, List.take_left' hlen2]
    rwa [e2] at this
  · refine List.nodup_append.2 ⟨by simp, nodup_swap hfi hnd1.2.1 hnf hdis2, fun a ha b' hb' e3 => ?_⟩
    simp only [List.mem_singleton] at ha
    subst ha; subst e3
    rcases mem_put hb' with h1 | h1
    · rcases hdis a h1 with h2 | h2
      · exact hpin a (hfin a h2) (by simp)
      · exact h2 (by simp)
    · exact hpin a h1 (by simp)
  · intro q hq
    rcases List.mem_append.1 hq with h1 | h1
    · exact .inl (List.mem_append_left _ (by simpa using h1))
    · rcases mem_put h1 with h2 | h2
      · exact .inr h2
      · exact .inl (List.mem_append_right _ h2)
end Go.Proofs.YtbgokfhcgcoipaaGreat
namespace Go.Proofs.YtbgokfhcgcoipaaGreat
open Go Go.Proofs.YtbgokfhcgcoipaaGreat.Sx
theorem Sx.OwnRows.blk_mem {w : World} {B : Nat} {e : TypeId} {k : Nat} {p : Option Addr} {n c : Nat} {l : List (List D0)} {f : List Nat} (h : OwnRows w B e k p n c l f) : ∀ q ∈ (p.map (·.block)).toList, q ∈ f := by
  obtain ⟨_, css, fs, _, _, rfl, _⟩ := h
  exact fun q hq => List.mem_append_left _ hq
theorem cntL_le {l : List (List D0)} {k : Int} (h : ∀ x ∈ l, cnts x <= k) : cntL l <= l.length * k := by
  induction l with
  | nil => simp [cntL]
  | cons a r ih =>
    have h1 := h a List.mem_cons_self
    have h2 := ih fun x hx => h x (List.mem_cons_of_mem _ hx)
    show cnts a + cntL r <= _
    rw [List.length_cons, Int.natCast_add, Int.add_mul]
    omega
end Go.Proofs.YtbgokfhcgcoipaaGreat
