/-
  Contracts: integers with a sign: made, negated, added.
-/
import Derived.Test.YtfbmjimhjlmhkaaDoorCAdd
namespace Go.Proofs.YtfbmjimhjlmhkaaDoor
open Go Go.Proofs.YtfbmjimhjlmhkaaDoor.Sx
set_option linter.unusedVariables false
set_option linter.unusedSimpArgs false

def mkS (neg : Bool) (m : List Int) : List D0 := [.bool (neg && !m.isEmpty), .ints m]
/-- an integer as its parts -/
def enc (z : Int) : List D0 := [.bool (decide (z < 0)), .ints (digs z.natAbs)]
def ival : List D0 → Int
  | [.bool b, .ints z] => if b then - val z else val z
  | _ => 0
/-- .. with at most fifty limbs, else 0 -/
def icap (z : Int) : List D0 := mkS (decide (z < 0)) (capL (digs z.natAbs))

theorem isEmpty_digs {n : Nat} : (digs n).isEmpty = decide (n = 0) := by
  cases h : (digs n) with
  | nil => simp [digs_nil.1 h]
  | cons a r =>
    have : n ≠ 0 := fun e => by rw [digs_nil.2 e] at h; cases h
    simp [this]
theorem mkS_pos (n : Nat) : mkS false (digs n) = enc n := by
  simp [mkS, enc] <;> omega
theorem mkS_neg (n : Nat) : mkS true (digs n) = enc (-n) := by
  simp only [mkS, enc, isEmpty_digs, Bool.true_and, Int.natAbs_neg, Int.natAbs_natCast]
  by_cases h : n = 0
  · subst h; simp
  · simp [h]; omega
theorem enc_code (z : Int) : (enc z).map D0.code = [.bool, .ints] := rfl
theorem ival_enc (z : Int) : ival (enc z) = z := by
  simp only [ival, enc, val_digs]
  by_cases h : z < 0
  · simp [h]; omega
  · simp [h]; omega
/-- a valid integer is made of its value -/
theorem intOk_enc {d : List D0} (h : intOk d = true) : d = enc (ival d) ∧ ∃ b z, d = [.bool b, .ints z] ∧ Canon z ∧ z.length ≤ 50 := by
  match d, h with
  | [.bool b, .ints z], h =>
    simp only [intOk, Bool.and_eq_true, natOk_spec, Bool.or_eq_true, Bool.not_eq_true'] at h
    obtain ⟨⟨hc, hl⟩, hb⟩ := h
    refine ⟨?_, b, z, rfl, hc, hl⟩
    have hv := val_nonneg hc.1
    have hd := digs_val hc
    cases b with
    | false =>
      simp only [ival, enc, Bool.false_eq_true, if_false]
      rw [show (val z).natAbs = (val z).toNat by omega, hd]
      have : ¬ val z < 0 := by omega
      simp [this]
    | true =>
      have hne : z ≠ [] := by
        rcases hb with hb | hb
        · cases hb
        · cases z with
          | nil => simp at hb
          | cons a r => simp
      have hp := canon_pos hc hne
      simp only [ival, enc, if_true]
      rw [show (-val z).natAbs = (val z).toNat by omega, hd]
      have : -val z < 0 := by omega
      simp [hp]
theorem isign_enc {z : Int} (h : intOk (enc z) = true) : isign (enc z) = if z < 0 then -1 else if z = 0 then 0 else 1 := by
  have h' := h
  unfold enc at h'
  unfold isign enc
  simp only [h', Bool.not_true, Bool.false_eq_true, if_false, isEmpty_digs]
  by_cases h1 : z < 0
  · have : z.natAbs ≠ 0 := by omega
    simp [h1]; omega
  · by_cases h2 : z = 0
    · simp [h2]
    · have : z.natAbs ≠ 0 := by omega
      simp [h1, h2]
theorem capL_digs_nil {n : Nat} : (capL (digs n)).isEmpty = false → (digs n).isEmpty = false := by
  intro h
  unfold capL at h
  split at h
  · exact h
  · simp at h
theorem mkS_capL (b : Bool) (m : List Int) : mkS (b && !m.isEmpty) (capL m) = mkS b (capL m) := by
  unfold mkS capL
  cases b <;> simp

theorem Sx.Owns.int2 {w : World} {B : Nat} {b : Bool} {p : Option Addr} {n c : Nat} {z : List Int} (h : Own w B T_int 1 p n c (z.map (Value.int .i64))) : Owns w B [.bool b, .slice p n c] [.bool b, .ints z] (p.map (·.block)).toList :=
  (Owns.bool w B b).append (Owns.ints h)
theorem nodup_opt (p : Option Addr) : ((p.map (·.block)).toList : List Nat).Nodup := by cases p <;> simp

theorem len_bool {z : List Int} {n : Nat} (h : z.length = n) : decide ((0 : Int) < (n : Nat)) = !z.isEmpty := intOk_len (b := true) h

theorem impl_signed_c {w : World} {neg : Bool} {p : Option Addr} {n c : Nat} {z : List Int} (hl : z.length = n) : Ret P n_impl_signed [.bool neg, .slice p n c] w fun v w' => v = .agg ⟨[.bool (neg && !z.isEmpty), .slice p n c]⟩ ∧ Ext w w' := by
  refine impl_signed_ret ?_
  unfold impl_signed
  intro r w1 hn
  refine ⟨fun e => ?_, fun e => ?_⟩
  · obtain ⟨w2, st, hb, y⟩ := hn.fill (P := P) (t := T_impl_Signed) (xs := [.bool (decide ((0 : Int) < (n : Nat))), .slice p n c]) (by simp [Value.oneCell']) (by kernel_rfl) rfl
    exact ⟨w2, st, _, _, _, _, hb.loadA0 (by kernel_rfl), by rw [len_bool hl, e]; rfl, y⟩
  · obtain ⟨w2, st, hb, y⟩ := hn.fill (P := P) (t := T_impl_Signed) (xs := [.bool false, .slice p n c]) (by simp [Value.oneCell']) (by kernel_rfl) rfl
    exact ⟨w2, st, _, _, _, _, hb.loadA0 (by kernel_rfl), by rw [e]; rfl, y⟩

theorem impl_intAdd_c {w : World} {xs ys : List Value} {x y : Int} (h : Reps w xs (enc x)) (k : Reps w ys (enc y)) (hx : (digs x.natAbs).length ≤ 10000000) (hy : (digs y.natAbs).length ≤ 10000000) :
    Ret P n_impl_intAdd [.agg ⟨xs⟩, .agg ⟨ys⟩] w fun v w' => ∃ p n c, v = .agg ⟨[.bool (decide (x + y < 0)), .slice p n c]⟩ ∧ Own w' w.heap.size T_int 1 p n c ((digs (x + y).natAbs).map (Value.int .i64)) ∧ Ext w w' := by
  obtain ⟨a0, a1p, a1n, a1c, a1z, rfl, hd, ha⟩ := open_Signed h rfl
  obtain ⟨b0, b1p, b1n, b1c, b1z, rfl, he, hb⟩ := open_Signed k rfl
  simp only [enc, List.cons.injEq, D0.bool.injEq, D0.ints.injEq, and_true] at hd he
  obtain ⟨rfl, rfl⟩ := hd
  obtain ⟨rfl, rfl⟩ := he
  have la := ha.1; have lb := hb.1
  have ca := digs_canon x.natAbs; have cb := digs_canon y.natAbs
  have va := val_digs x.natAbs; have vb := val_digs y.natAbs
  refine impl_intAdd_ret ?_
  unfold impl_intAdd
  intro r w1 hn1 r1 w2 hn2 r2 w3 hn3
  have X := (hn1.ext.trans hn2.ext).trans hn3.ext
  have e1 := hn1.r_eq; have e2 := hn2.r_eq; have e3 := hn3.r_eq; have s1 := hn1.size; have s2 := hn2.size; have s3 := hn3.size
  have k0 := (hn1.blk.ext hn2.ext).ext hn3.ext; have k1 := hn2.blk.ext hn3.ext; have k2 := hn3.blk
  -- the end of every way: the sign, and what was added or subtracted
  have fin : ∀ (W : World) (neg : Bool) (p : Option Addr) (n c : Nat) (m : Nat), Own W w.heap.size T_int 1 p n c ((digs m).map (Value.int .i64)) → Ext w W → Blk W r2 T_impl_Signed [.bool false, .slice none 0 0] → (∀ q, p.map (·.block) = some q → q ≠ r2) → m = (x + y).natAbs → (m ≠ 0 → neg = decide (x + y < 0)) →
      Calls P n_impl_signed ⟨[.bool neg, .slice p n c]⟩ W fun e_1 wv_7 => ∃ (t170 : Bool) (t171_p : Option Addr) (t171_n : Nat) (t171_c : Nat), e_1 = .returned (.agg #[(.bool t170), (.slice t171_p t171_n t171_c)]) ∧
        ∃ wv_8, Stores P T_impl_Signed ⟨r2, 0, none⟩ (.agg #[(.bool t170), (.slice t171_p t171_n t171_c)]) wv_7 wv_8 ∧
        ∃ (r0 : Bool) (r1_p : Option Addr) (r1_n : Nat) (r1_c : Nat), Loads P T_impl_Signed ⟨r2, 0, none⟩ (.agg #[(.bool r0), (.slice r1_p r1_n r1_c)]) wv_8 ∧ (fun (v : Value) (w' : World) => ∃ p n c, v = .agg ⟨[.bool (decide (x + y < 0)), .slice p n c]⟩ ∧ Own w' w.heap.size T_int 1 p n c ((digs (x + y).natAbs).map (Value.int .i64)) ∧ Ext w w') (.agg #[(.bool r0), (.slice r1_p r1_n r1_c)]) wv_8 := by
    intro W neg p n c m hown hX hk2 hq hm hs
    refine Ret.at (impl_signed_c hown.ints.1) ?_
    rintro v W2 ⟨hv, y2⟩
    subst hv
    obtain ⟨W3, st, hb3, ch, sz⟩ := (hk2.ext y2).storeA0 (P := P) (t := T_impl_Signed) (xs := [.bool (neg && !(digs m).isEmpty), .slice p n c]) (by kernel_rfl) rfl (by simp [Value.oneCell'])
    refine ⟨_, _, _, _, rfl, W3, st, _, _, _, _, hb3.loadA0 (by kernel_rfl), p, n, c, ?_, ?_, (hX.trans y2).chg ch (by simp; omega)⟩
    · rw [isEmpty_digs]
      by_cases h0 : m = 0
      · have : ¬ (x + y < 0) := by omega
        simp [h0, this]
      · simp [h0, hs h0]
    · rw [← hm]
      exact (hown.ext y2).chg ch (fun q hq' => by simp only [List.mem_singleton]; exact hq q hq')
  have ne2 : ∀ {W : World} {B : Nat} {p : Option Addr} {n c : Nat} {zs : List Value}, Own W B T_int 1 p n c zs → r2 < B → ∀ q, p.map (·.block) = some q → q ≠ r2 := fun ho hB q hq => by
    have := (World.ownsRow.lt ho q (by rw [← hq]; rename_i p n c _; cases p <;> rfl)).1
    omega
  refine ⟨_, k0.load (by kernel_rfl) rfl, _, k1.load (by kernel_rfl) rfl, fun es => ?_, fun es => ?_⟩
  · have es' : decide (x < 0) = decide (y < 0) := by simpa using es
    have D := Ext.drew w3
    refine ⟨_, fun W hW => (k0.ext (D.trans hW)).load (by kernel_rfl) rfl, _, _, _, fun W hW => (k0.ext (D.trans hW)).load (by kernel_rfl) rfl, _, _, _, fun W hW => (k1.ext (D.trans hW)).load (by kernel_rfl) rfl, ?_⟩
    refine Ret.at (impl_natAdd_c (ha.ext (X.trans D)) (hb.ext (X.trans D)) ca.1 cb.1 (by omega) (by omega)) ?_
    rintro v w4 ⟨p, n, c, hv, hown, y4⟩
    subst hv
    rw [va, vb] at hown
    refine ⟨_, _, _, rfl, y4, fin w4 _ p n c _ (hown.mono ?_) ((X.trans D).trans y4) ((k2.ext D).ext y4) (ne2 hown ?_) ?_ ?_⟩
    · have := (X.trans D).le; omega
    · have := D.le; omega
    · by_cases hx0 : x < 0 <;> by_cases hy0 : y < 0 <;> simp [hx0, hy0] at es' <;> omega
    · intro h0
      by_cases hx0 : x < 0 <;> by_cases hy0 : y < 0 <;> simp [hx0, hy0] at es' ⊢ <;> omega
  · have es' : ¬ (decide (x < 0) = decide (y < 0)) := by simpa using es
    refine ⟨_, _, _, k0.load (by kernel_rfl) rfl, _, _, _, k1.load (by kernel_rfl) rfl, ?_⟩
    refine Ret.at (impl_natCmp_c (ha.ext X) (hb.ext X)) ?_
    rintro v w4 ⟨hv, y4⟩
    subst hv
    have cv := cmpL_val ca cb
    rw [va, vb] at cv
    have X4 := X.trans y4
    have k0 := k0.ext y4; have k1 := k1.ext y4; have k2 := k2.ext y4
    have s4 := y4.le
    refine ⟨_, rfl, ifD (fun hlt => ?_) (fun hge => ?_)⟩
    · have hlt' : x.natAbs < y.natAbs := by
        rcases cv with h | h | h <;> omega
      refine ⟨_, _, _, _, k1.loadA0 (by kernel_rfl), _, _, _, _, k0.loadA0 (by kernel_rfl), ?_⟩
      obtain ⟨w5, st5, k0', ch5, sz5⟩ := k0.storeA0 (P := P) (t := T_impl_Signed) (xs := [.bool (decide (y < 0)), .slice b1p b1n b1c]) (by kernel_rfl) rfl (by simp [Value.oneCell'])
      have k1 := k1.chg ch5 (by simp; omega); have k2 := k2.chg ch5 (by simp; omega); have X5 := X4.chg ch5 (by simp; omega)
      obtain ⟨w6, st6, k1', ch6, sz6⟩ := k1.storeA0 (P := P) (t := T_impl_Signed) (xs := [.bool (decide (x < 0)), .slice a1p a1n a1c]) (by kernel_rfl) rfl (by simp [Value.oneCell'])
      have k0' := k0'.chg ch6 (by simp; omega); have k2 := k2.chg ch6 (by simp; omega); have X6 := X5.chg ch6 (by simp; omega)
      refine ⟨w5, st5, w6, st6, ?_⟩
      unfold impl_intAdd_j0
      have D := Ext.drew w6
      refine ⟨_, fun W hW => (k0'.ext (D.trans hW)).load (by kernel_rfl) rfl, _, _, _, fun W hW => (k0'.ext (D.trans hW)).load (by kernel_rfl) rfl, _, _, _, fun W hW => (k1'.ext (D.trans hW)).load (by kernel_rfl) rfl, ?_⟩
      have hll : a1n ≤ b1n := by
        rcases Nat.lt_or_ge b1n a1n with h | h
        · have := canon_len cb ca (by omega); omega
        · exact h
      refine Ret.at (impl_natSub_c (hb.ext (X6.trans D)) (ha.ext (X6.trans D)) cb.1 ca.1 (by omega) hll (by omega)) ?_
      rintro v w7 ⟨p, n, c, hv, hown, y7⟩
      subst hv
      rw [va, vb] at hown
      refine ⟨_, _, _, rfl, y7, fin w7 _ p n c _ (hown.mono ?_) ((X6.trans D).trans y7) ((k2.ext D).ext y7) (ne2 hown ?_) ?_ ?_⟩
      · have := (X6.trans D).le; omega
      · have := D.le; omega
      · by_cases hx0 : x < 0 <;> by_cases hy0 : y < 0 <;> simp [hx0, hy0] at es' <;> omega
      · intro h0
        by_cases hx0 : x < 0 <;> by_cases hy0 : y < 0 <;> simp [hx0, hy0] at es' ⊢ <;> omega
    · have hge' : y.natAbs ≤ x.natAbs := by
        rcases cv with h | h | h <;> omega
      unfold impl_intAdd_j0
      have D := Ext.drew w4
      refine ⟨_, fun W hW => (k0.ext (D.trans hW)).load (by kernel_rfl) rfl, _, _, _, fun W hW => (k0.ext (D.trans hW)).load (by kernel_rfl) rfl, _, _, _, fun W hW => (k1.ext (D.trans hW)).load (by kernel_rfl) rfl, ?_⟩
      have hll : b1n ≤ a1n := by
        rcases Nat.lt_or_ge a1n b1n with h | h
        · have := canon_len ca cb (by omega); omega
        · exact h
      refine Ret.at (impl_natSub_c (ha.ext (X4.trans D)) (hb.ext (X4.trans D)) ca.1 cb.1 (by omega) hll (by omega)) ?_
      rintro v w7 ⟨p, n, c, hv, hown, y7⟩
      subst hv
      rw [va, vb] at hown
      refine ⟨_, _, _, rfl, y7, fin w7 _ p n c _ (hown.mono ?_) ((X4.trans D).trans y7) ((k2.ext D).ext y7) (ne2 hown ?_) ?_ ?_⟩
      · have := (X4.trans D).le; omega
      · have := D.le; omega
      · by_cases hx0 : x < 0 <;> by_cases hy0 : y < 0 <;> simp [hx0, hy0] at es' <;> omega
      · intro h0
        by_cases hx0 : x < 0 <;> by_cases hy0 : y < 0 <;> simp [hx0, hy0] at es' ⊢ <;> omega

end Go.Proofs.YtfbmjimhjlmhkaaDoor
