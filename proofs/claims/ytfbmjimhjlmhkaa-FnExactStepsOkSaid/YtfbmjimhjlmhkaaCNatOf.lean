/-
  Contracts: natural numbers from machine numbers.
-/
import Derived.Test.YtfbmjimhjlmhkaaCSpecInt
namespace Go.Proofs.Ytfbmjimhjlmhkaa
open Go Go.Proofs.Ytfbmjimhjlmhkaa.Sx
set_option linter.unusedVariables false
set_option linter.unusedSimpArgs false

theorem digs_split {o : List Int} {N n : Nat} (h : digs N = o ++ digs n) (hn : 0 < n) : digs N = (o ++ [((n % 1000000000 : Nat) : Int)]) ++ digs (n / 1000000000) := by
  rw [h, digs_pos (by omega)]; simp

/-- few enough rounds -/
def room (on : Nat) (n : Int) : Prop := (on = 0 ∧ n < 1000000000000000000000000000) ∨ (on = 1 ∧ n < 1000000000000000000) ∨ (on = 2 ∧ n < 1000000000) ∨ (on = 3 ∧ n < 1)
theorem room_next {on : Nat} {n : Int} (h : room on n) (h0 : 0 < n) : room (on + 1) (n / 1000000000) ∧ on ≤ 2 := by
  unfold room at h ⊢
  omega

theorem spec_NatOf_c {w : World} {n : Int} (h0 : 0 ≤ n) (h1 : n ≤ 9223372036854775807) :
    Ret P n_spec_NatOf [.int .i64 n] w fun v w' => ∃ p' n' c', v = .slice p' n' c' ∧ Own w' w.heap.size T_int 1 p' n' c' ((digs n.toNat).map (Value.int .i64)) ∧ Ext w w' := by
  refine spec_NatOf_ret ?_
  unfold spec_NatOf
  intro r w1 hn1
  refine ⟨fun m p on c wr => ∃ o : List Int, 0 ≤ m ∧ room on m ∧ m ≤ n ∧ Own wr w.heap.size T_int 1 p on c (o.map (Value.int .i64)) ∧ Ext w wr ∧ digs n.toNat = o ++ digs m.toNat, fun m _ _ _ _ => m.toNat,
    ⟨[], h0, by unfold room; omega, Int.le_refl _, Own.fresh hn1, hn1.ext, rfl⟩, ?_⟩
  intro junk wr m p on c ⟨o, hm0, hrm, hmn, hown, hx, hd⟩
  refine ifD (fun hpos => ?_) (fun hz => ?_)
  · obtain ⟨hr2, hon⟩ := room_next hrm hpos
    refine ⟨by decide, _, rfl, fun r1 w2 hn2 => ?_⟩
    rw [tmod_limb hm0] at hn2
    obtain ⟨p', c', w3, g1, g2, g3⟩ := Own.push hown hx.le hn2 (by omega)
    refine ⟨_, _, _, _, g1, by decide, ?_⟩
    rw [tdiv_limb hm0]
    refine exW ⟨by omega, by omega⟩ ⟨⟨_, by omega, hr2, by omega, g2, g3 w hx (Nat.le_refl _), ?_⟩, ?_⟩
    · have := digs_split hd (show 0 < m.toNat by omega)
      have e1 : ((m.toNat % 1000000000 : Nat) : Int) = m % 1000000000 := by omega
      have e2 : m.toNat / 1000000000 = (m / 1000000000).toNat := by omega
      rw [this, e1, e2]
    · show (m / 1000000000).toNat < m.toNat
      omega
  · have : m.toNat = 0 := by omega
    rw [this, digs_zero, List.append_nil] at hd
    exact ⟨_, _, _, rfl, by rw [hd]; exact hown, hx⟩

theorem impl_natOf_c {w : World} {n : Int} (h0 : 0 ≤ n) (h1 : n ≤ 18446744073709551615) :
    Ret P n_impl_natOf [.int .u64 n] w fun v w' => ∃ p' n' c', v = .slice p' n' c' ∧ Own w' w.heap.size T_int 1 p' n' c' ((digs n.toNat).map (Value.int .i64)) ∧ Ext w w' := by
  refine impl_natOf_ret ?_
  unfold impl_natOf
  intro r w1 hn1
  refine ⟨fun m p on c wr => ∃ o : List Int, 0 ≤ m ∧ room on m ∧ m ≤ n ∧ Own wr w.heap.size T_int 1 p on c (o.map (Value.int .i64)) ∧ Ext w wr ∧ digs n.toNat = o ++ digs m.toNat, fun m _ _ _ _ => m.toNat,
    ⟨[], h0, by unfold room; omega, Int.le_refl _, Own.fresh hn1, hn1.ext, rfl⟩, ?_⟩
  intro junk wr m p on c ⟨o, hm0, hrm, hmn, hown, hx, hd⟩
  refine ifD (fun hpos => ?_) (fun hz => ?_)
  · obtain ⟨hr2, hon⟩ := room_next hrm hpos
    refine ⟨by decide, _, rfl, ?_⟩
    rw [tmod_limb hm0]
    refine exW ⟨by omega, by omega⟩ (fun r1 w2 hn2 => ?_)
    obtain ⟨p', c', w3, g1, g2, g3⟩ := Own.push hown hx.le hn2 (by omega)
    refine ⟨_, _, _, _, g1, by decide, ?_⟩
    rw [tdiv_limb hm0]
    have wu : IntKind.wrap .u64 (m / 1000000000) = m / 1000000000 := by
      simp only [IntKind.wrap, IntKind.bits, IntKind.signed]
      simp
      omega
    refine ⟨_, rfl, ?_⟩
    rw [wu]
    refine ⟨⟨_, by omega, hr2, by omega, g2, g3 w hx (Nat.le_refl _), ?_⟩, ?_⟩
    · have := digs_split hd (show 0 < m.toNat by omega)
      have e1 : ((m.toNat % 1000000000 : Nat) : Int) = m % 1000000000 := by omega
      have e2 : m.toNat / 1000000000 = (m / 1000000000).toNat := by omega
      rw [this, e1, e2]
    · show (m / 1000000000).toNat < m.toNat
      omega
  · have : m.toNat = 0 := by omega
    rw [this, digs_zero, List.append_nil] at hd
    exact ⟨_, _, _, rfl, by rw [hd]; exact hown, hx⟩

theorem digs_len3 {n : Nat} (h : n < 1000000000000000000000000000) : (digs n).length ≤ 3 := by
  by_cases h1 : n = 0
  · subst h1; simp [digs_zero]
  · rw [digs_pos h1]
    by_cases h2 : n / 1000000000 = 0
    · rw [h2, digs_zero]; simp
    · rw [digs_pos h2]
      by_cases h3 : n / 1000000000 / 1000000000 = 0
      · rw [h3, digs_zero]; simp
      · rw [digs_pos h3]
        have h4 : n / 1000000000 / 1000000000 / 1000000000 = 0 := by omega
        rw [h4, digs_zero]; simp
theorem icap_small {z : Int} (h : z.natAbs < 1000000000000000000000000000) : icap z = enc z := by
  have hl := digs_len3 h
  unfold icap capL
  rw [if_pos (by omega)]
  simp only [mkS, enc, isEmpty_digs]
  by_cases h0 : z < 0
  · have : z.natAbs ≠ 0 := by omega
    simp [h0]; omega
  · simp [h0]

theorem impl_IntOf_c {w : World} {n : Int} (h0 : -9223372036854775808 ≤ n) (h1 : n ≤ 9223372036854775807) :
    Ret P n_impl_IntOf [.int .i64 n] w fun v w' => ∃ vs' f, v = .agg ⟨vs'⟩ ∧ Owns w' w.heap.size vs' (enc n) f ∧ f.Nodup ∧ Ext w w' := by
  refine impl_IntOf_ret ?_
  unfold impl_IntOf
  intro r w1 hn1
  have e1 := hn1.r_eq; have s1 := hn1.size
  have fin : ∀ (W : World) (p : Option Addr) (m c : Nat) (b : Bool), b = decide (n < 0) → Own W w1.heap.size T_int 1 p m c ((digs n.natAbs).map (Value.int .i64)) → Ext w1 W → ∃ wv_2, Stores P T_impl_Signed ⟨r, 0, none⟩ (.agg #[(.bool b), (.slice p m c)]) W wv_2 ∧
      ∃ (r0 : Bool) (r1_p : Option Addr) (r1_n : Nat) (r1_c : Nat), Loads P T_impl_Signed ⟨r, 0, none⟩ (.agg #[(.bool r0), (.slice r1_p r1_n r1_c)]) wv_2 ∧ (fun (v : Value) (w' : World) => ∃ vs' f, v = .agg ⟨vs'⟩ ∧ Owns w' w.heap.size vs' (enc n) f ∧ f.Nodup ∧ Ext w w') (.agg #[(.bool r0), (.slice r1_p r1_n r1_c)]) wv_2 := by
    intro W p m c b hb ho hW
    obtain ⟨w5, st, hb5, ch, sz⟩ := (hn1.blk.ext hW).storeA0 (P := P) (t := T_impl_Signed) (xs := [.bool b, .slice p m c]) (by kernel_rfl) rfl (by simp [Value.oneCell'])
    refine ⟨w5, st, _, _, _, _, hb5.loadA0 (by kernel_rfl), _, _, rfl, ?_, nodup_opt p, (hn1.ext.trans hW).chg ch (by simp; omega)⟩
    have := (Owns.int2 (b := b) ho).chg1 ch (by omega)
    rw [hb] at this
    rw [hb]
    exact this.mono (by omega)
  refine ifD (fun hneg => ?_) (fun hpos => ?_)
  · have w6 : IntKind.wrap .u64 n = n + 18446744073709551616 := by
      simp only [IntKind.wrap, IntKind.bits, IntKind.signed]
      simp
      omega
    have w7 : IntKind.wrap .u64 (0 - (n + 18446744073709551616)) = -n := by
      simp only [IntKind.wrap, IntKind.bits, IntKind.signed]
      simp
      omega
    refine ⟨_, rfl, _, rfl, ?_⟩
    rw [w6, w7]
    refine Ret.at (impl_natOf_c (by omega) (by omega)) ?_
    rintro v w2 ⟨p, m, c, hv, ho, y⟩
    subst hv
    rw [show (-n).toNat = n.natAbs by omega] at ho
    exact ⟨_, _, _, rfl, fin w2 p m c true (by simp [hneg]) ho y⟩
  · have w6 : IntKind.wrap .u64 n = n := by
      simp only [IntKind.wrap, IntKind.bits, IntKind.signed]
      simp
      omega
    refine ⟨_, rfl, ?_⟩
    rw [w6]
    refine Ret.at (impl_natOf_c (by omega) (by omega)) ?_
    rintro v w2 ⟨p, m, c, hv, ho, y⟩
    subst hv
    rw [show n.toNat = n.natAbs by omega] at ho
    exact ⟨_, _, _, rfl, fin w2 p m c false (by simp; omega) ho y⟩

theorem spec_IntOf_c {w : World} {n : Int} (h0 : -9223372036854775808 ≤ n) (h1 : n ≤ 9223372036854775807) :
    Ret P n_spec_IntOf [.int .i64 n] w fun v w' => ∃ vs' f, v = .agg ⟨vs'⟩ ∧ Owns w' w.heap.size vs' (enc n) f ∧ f.Nodup ∧ Ext w w' := by
  refine spec_IntOf_ret ?_
  unfold spec_IntOf
  intro r w1 hn1
  have e1 := hn1.r_eq; have s1 := hn1.size
  have fin : ∀ (W : World) (neg : Bool) (p : Option Addr) (m c : Nat) (z : List Int), IntsR W p m c z → Limbs z → Ext w1 W → (val z).toNat = n.natAbs → ((val z).toNat ≠ 0 → neg = decide (n < 0)) →
      Calls P n_spec_l04Make ⟨[.bool neg, .slice p m c]⟩ W fun e_1 wv_7 => ∃ (t170 : Bool) (t171_p : Option Addr) (t171_n : Nat) (t171_c : Nat), e_1 = .returned (.agg #[(.bool t170), (.slice t171_p t171_n t171_c)]) ∧
        ∃ wv_8, Stores P T_impl_Signed ⟨r, 0, none⟩ (.agg #[(.bool t170), (.slice t171_p t171_n t171_c)]) wv_7 wv_8 ∧
        ∃ (r0 : Bool) (r1_p : Option Addr) (r1_n : Nat) (r1_c : Nat), Loads P T_impl_Signed ⟨r, 0, none⟩ (.agg #[(.bool r0), (.slice r1_p r1_n r1_c)]) wv_8 ∧ (fun (v : Value) (w' : World) => ∃ vs' f, v = .agg ⟨vs'⟩ ∧ Owns w' w.heap.size vs' (enc n) f ∧ f.Nodup ∧ Ext w w') (.agg #[(.bool r0), (.slice r1_p r1_n r1_c)]) wv_8 := by
    intro W neg p m c z hz hlz hW hm hs
    refine Ret.at (spec_l04Make_c hz hlz) ?_
    rintro v W2 ⟨b, q, qn, qc, hv, hbb, ho, y2⟩
    subst hv
    have hW0 := hW.le
    obtain ⟨W3, st, hb3, ch, sz⟩ := ((hn1.blk.ext hW).ext y2).storeA0 (P := P) (t := T_impl_Signed) (xs := [.bool b, .slice q qn qc]) (by kernel_rfl) rfl (by simp [Value.oneCell'])
    have ow2 : Owns W2 W.heap.size [.bool b, .slice q qn qc] (enc n) (q.map (·.block)).toList := by
      rw [← icap_small (by omega), ← mkS_digs hm hs, hbb]; exact Owns.int2 ho
    exact ⟨_, _, _, _, rfl, W3, st, _, _, _, _, hb3.loadA0 (by kernel_rfl), _, _, rfl, (ow2.chg1 ch (by omega)).mono (by omega), nodup_opt q, ((hn1.ext.trans hW).trans y2).chg ch (by simp; omega)⟩
  refine ifD (fun hmin => ?_) (fun hnm => ifD (fun hneg => ?_) (fun hpos => ?_))
  · intro r1 w2 hn2
    refine fin w2 true _ 3 3 [854775808, 223372036, 9] ⟨rfl, Nat.le_refl _, by omega, fun _ => ⟨r1, 0, rfl, hn2.blk.seg⟩⟩ (fun x hx => by simp at hx; omega) hn2.ext ?_ ?_
    · simp [val]; omega
    · intro _; simp; omega
  · have w6 : IntKind.wrap .i64 (0 - n) = -n := by
      simp only [IntKind.wrap, IntKind.bits, IntKind.signed]
      simp
      omega
    refine ⟨_, rfl, ?_⟩
    rw [w6]
    refine Ret.at (spec_NatOf_c (by omega) (by omega)) ?_
    rintro v w2 ⟨p, m, c, hv, ho, y⟩
    subst hv
    refine ⟨_, _, _, rfl, fin w2 true p m c _ ho.ints (digs_limbs _) y ?_ ?_⟩
    · rw [val_digs]; omega
    · intro _; simp [hneg]
  · refine Ret.at (spec_NatOf_c (by omega) (by omega)) ?_
    rintro v w2 ⟨p, m, c, hv, ho, y⟩
    subst hv
    refine ⟨_, _, _, rfl, fin w2 false p m c _ ho.ints (digs_limbs _) y ?_ ?_⟩
    · rw [val_digs]; omega
    · intro _; simp; omega

end Go.Proofs.Ytfbmjimhjlmhkaa
