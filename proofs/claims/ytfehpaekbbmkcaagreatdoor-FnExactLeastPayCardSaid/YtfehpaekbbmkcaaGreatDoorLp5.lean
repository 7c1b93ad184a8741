/-
  Parts of the proof of leastPay_holds: CDivS, CGcd, CTen, CDec, CScaled, CDecCmp, CCopy, CRat, CRatLaw, CSpecDec, CDecMul, CDecLow, CRatA, CRatB, CRestsNeg, CRatC, CRoundA, CRoundB, CRatM, CMoneyAS.
  Conditions: none.
-/
import Derived.Test.YtfehpaekbbmkcaaGreatDoorLp4
set_option linter.unusedVariables false
set_option linter.unusedSimpArgs false

namespace Go.Proofs.YtfehpaekbbmkcaaGreatDoor
open Go Go.Proofs.YtfehpaekbbmkcaaGreatDoor.Sx
theorem spec_l03Small_c {w : World} {p : Option Addr} {n c : Nat} {a : List Int} {d : Int} (h : IntsR w p n c a) (ha : Limbs a) (hd : 0 < d /\ d < 1000000000) (hn : n <= 10000000) :
    Ret P n_spec_l03Small [.slice p n c, .int .i64 d] w fun v w' => ∃ p' n' c', v = .tuple #[.slice p' n' c', .int .i64 (val a % d)] /\ Own w' w.heap.size T_int 1 p' n' c' ((digs (val a / d).toNat).map (Value.int .i64)) /\ Ext w w' := by
  refine spec_l03Small_ret ?_
  unfold spec_l03Small
  have hla := h.1
  refine ⟨⟨by omega, by omega, by omega⟩, fun r w1 hn1 => exW ⟨by omega, by omega⟩ ?_⟩
  have hre := hn1.r_eq
  have hb1 := hn1.blk
  rw [zeroRow_int, Nat.mul_one] at hb1
  refine ⟨fun rest i wr => ∃ (s : Nat) (o : List Int), i = (s : Int) - 1 /\ s <= n /\ o.length = n /\ Blk wr r T_int (o.map (Value.int .i64)) /\ Ext w wr /\ Limbs o /\ 0 <= rest /\ rest < d /\ val (a.drop s) = d * val (o.drop s) + rest, fun _ i _ => (i + 1).toNat,
    ⟨n, List.replicate n 0, rfl, by omega, by simp, by simpa using hb1, hn1.ext, fun x hx => by simp at hx; omega, by omega, by omega, by rw [List.drop_of_length_le (by omega), List.drop_of_length_le (by simp)]; simp [val]⟩, ?_⟩
  intro junk wr rest i ⟨s, o, hi, hsn, hol, hblk, hx, hlo, hr0, hr1, hv⟩
  subst hi
  refine ifD (fun hlt => ?_) (fun hge => ?_)
  · obtain ⟨t, rfl⟩ : ∃ t, s = t + 1 := ⟨s - 1, by omega⟩
    have A := ha.getD t
    have e1 : (((t + 1 : Nat) : Int) - 1).toNat = t := by omega
    obtain ⟨ad, rfl, hl⟩ := ints_at (h.ext hx) (i := ((t + 1 : Nat) : Int) - 1) (by omega) (by omega)
    rw [e1] at hl ⊢
    have T1 : rest * 1000000000 + a.getD t 0 < 1000000000 * d := by
      have : rest * 1000000000 <= (d - 1) * 1000000000 := Int.mul_le_mul_of_nonneg_right (by omega) (by omega)
      omega
    have T0 : 0 <= rest * 1000000000 + a.getD t 0 := by omega
    have Y0 : 0 <= (rest * 1000000000 + a.getD t 0) / d := Int.ediv_nonneg T0 (by omega)
    have Y1 : (rest * 1000000000 + a.getD t 0) / d < 1000000000 := Int.ediv_lt_of_lt_mul (by omega) T1
    have Z0 := Int.emod_nonneg (rest * 1000000000 + a.getD t 0) (show d ≠ 0 by omega)
    have Z1 := Int.emod_lt_of_pos (rest * 1000000000 + a.getD t 0) hd.1
    have Q := Int.mul_ediv_add_emod (rest * 1000000000 + a.getD t 0) d
    refine exW ⟨by omega, by omega⟩ ⟨⟨by omega, by omega⟩, _, hl, exW ⟨by omega, by omega⟩ ⟨by omega, ?_⟩⟩
    rw [Int.tdiv_eq_ediv_of_nonneg T0, Int.tmod_eq_emod_of_nonneg T0]
    obtain ⟨w3, st, hb3, ch3, sz3⟩ := blk_set hblk (i := (t : Int)) (by omega) (by omega) ((rest * 1000000000 + a.getD t 0) / d)
    simp only [Int.toNat_natCast] at st hb3
    refine exW ⟨by omega, by omega⟩ ⟨⟨by omega, by omega⟩, w3, st, by omega, _, rfl, exW ⟨by omega, by omega⟩ ⟨⟨t, _, by omega, by omega, by simpa using hol, hb3, hx.chg ch3 (by simp; omega), hlo.set ⟨Y0, Y1⟩, Z0, Z1, ?_⟩, ?_⟩⟩
    · have ea : a.drop t = a.getD t 0 :: a.drop (t + 1) := by
        rw [List.drop_eq_getElem_cons (by omega), List.getD_eq_getElem?_getD, List.getElem?_eq_getElem (by omega)]; rfl
      have eo : (o.set t ((rest * 1000000000 + a.getD t 0) / d)).drop t = (rest * 1000000000 + a.getD t 0) / d :: o.drop (t + 1) := by
        rw [List.drop_eq_getElem_cons (by simp; omega), List.getElem_set_self, List.drop_set_of_lt (by omega)]
      rw [ea, eo, val, val, hv, Int.mul_add d]
      have : d * (1000000000 * val (o.drop (t + 1))) = 1000000000 * (d * val (o.drop (t + 1))) := by rw [Int.mul_left_comm]
      omega
    · show (((t + 1 : Nat) : Int) - 1 - 1 + 1).toNat < (((t + 1 : Nat) : Int) - 1 + 1).toNat
      omega
  · have hs0 : s = 0 := by omega
    subst hs0
    simp only [List.drop_zero] at hv
    have hown : Own wr w.heap.size T_int 1 (some ⟨r, 0, none⟩) n n (o.map (Value.int .i64)) := Own.of_blk hblk (by omega) (by simp [hol]) (by simp only [maxLen]; omega)
    refine Ret.at (spec_l02Trim_c hown.ints) ?_
    rintro v w4 ⟨hv4, hw4, hr4⟩
    subst hv4; subst hw4
    have e1 : val a / d = val o := by rw [hv, Int.mul_comm, Int.add_comm, Int.add_mul_ediv_right _ _ (by omega), Int.ediv_eq_zero_of_lt hr0 hr1, Int.zero_add]
    have e2 : val a % d = rest := by rw [hv, Int.mul_comm, Int.add_comm, Int.add_mul_emod_self_right, Int.emod_eq_of_lt hr0 hr1]
    refine ⟨_, _, _, rfl, _, _, _, by rw [e2], ?_, hx⟩
    rw [e1, <- trimL_eq hlo]
    have hle := trimL_len o
    have := hown.sub (m := (trimL o).length) (by omega)
    rwa [<- trimL_prefix] at this
theorem spec_l02Sub_o {w : World} {p q : Option Addr} {n c m d : Nat} {a b : List Int} (h : IntsR w p n c a) (k : IntsR w q m d b) (ha : Limbs a) (hb : Limbs b) (hn : n <= 10000000) (hbl : m <= n) (hab : val b <= val a) :
    Ret P n_spec_l02Sub [.slice p n c, .slice q m d] w fun v w' => ∃ p' n' c', v = .slice p' n' c' /\ Own w' w.heap.size T_int 1 p' n' c' ((digs (val a - val b).toNat).map (Value.int .i64)) /\ Ext w w' := by
  refine spec_l02Sub_ret ?_
  unfold spec_l02Sub
  have hla := h.1; have hlb := k.1
  intro r w1 hn1
  let Inv : Option Addr -> Nat -> Nat -> Int -> Int -> World -> Prop := fun p on c less i wr => ∃ (o : List Int), i = on /\ on <= n /\ Own wr w.heap.size T_int 1 p on c (o.map (Value.int .i64)) /\ Ext w wr /\ Limbs o /\ o.length = on /\ 0 <= less /\ less <= 1 /\ val o - 1000000000 ^ on * less = val (a.take on) - val (b.take on)
  refine ⟨Inv, fun _ _ _ _ i _ => n - i.toNat, ⟨[], rfl, by omega, Own.fresh hn1, hn1.ext, Limbs.nil, rfl, by omega, by omega, by simp [val]⟩, ?_⟩
  intro junk wr op j oc less i ⟨o, hi, hjn, hown, hx, hlo, hol, hc0, hc1, hv⟩
  subst hi
  have A := ha.getD j; have B := hb.getD j
  have bb : (j : Int) < m ∨ b.getD j 0 = 0 := by
    by_cases e : j < m
    · left; omega
    · right; exact getD_beyond (by omega)
  have J1 : ∀ l' u, (j : Int) < n -> u = a.getD j 0 - less - b.getD j 0 + 1000000000 * l' -> 0 <= u -> u < 1000000000 -> 0 <= l' -> l' <= 1 ->
      spec_l02Sub_j1 wr Inv (fun _ _ _ _ i _ => n - i.toNat) op j oc less j l' u wr fun v w' => ∃ p' n' c', v = .slice p' n' c' /\ Own w' w.heap.size T_int 1 p' n' c' ((digs (val a - val b).toNat).map (Value.int .i64)) /\ Ext w w' := by
    intro l' u hlt hu h0 h1 h2 h3
    unfold spec_l02Sub_j1
    intro r1 w2 hn2
    obtain ⟨p', c', w3, g1, g2, g3⟩ := Own.push hown hx.le hn2 (by omega)
    refine ⟨_, _, _, _, g1, exW ⟨by omega, by omega⟩ ⟨⟨o ++ [u], by omega, by omega, g2, g3 w hx (Nat.le_refl _), hlo.snoc ⟨h0, h1⟩, by simp [hol], h2, h3, sub_step hol hv rfl hu⟩, ?_⟩⟩
    show n - ((j : Int) + 1).toNat < n - (j : Int).toNat
    omega
  have J0 : ∀ t, (j : Int) < n -> t = a.getD j 0 - less - b.getD j 0 ->
      spec_l02Sub_j0 wr Inv (fun _ _ _ _ i _ => n - i.toNat) op j oc less j t wr fun v w' => ∃ p' n' c', v = .slice p' n' c' /\ Own w' w.heap.size T_int 1 p' n' c' ((digs (val a - val b).toNat).map (Value.int .i64)) /\ Ext w w' := by
    intro t hlt ht
    unfold spec_l02Sub_j0
    exact ifD (fun hneg => exW ⟨by omega, by omega⟩ (J1 1 _ hlt (by omega) (by omega) (by omega) (by omega) (by omega))) (fun hpos => J1 0 _ hlt (by omega) (by omega) (by omega) (by omega) (by omega))
  refine ifD (fun hlt => ?_) (fun hge => ?_)
  · obtain ⟨ad, rfl, hl⟩ := ints_at (h.ext hx) (i := (j : Int)) (by omega) hlt
    refine ⟨⟨by omega, by omega⟩, _, hl, exW ⟨by simp only [Int.toNat_natCast]; omega, by simp only [Int.toNat_natCast]; omega⟩ (ifD (fun hlm => ?_) (fun hge => J0 _ hlt (by simp only [Int.toNat_natCast]; rw [bb.resolve_left hge]; omega)))⟩
    obtain ⟨ad2, rfl, hl2⟩ := ints_at (k.ext hx) (i := (j : Int)) (by omega) hlm
    exact ⟨⟨by omega, by omega⟩, _, hl2, exW ⟨by simp only [Int.toNat_natCast]; omega, by simp only [Int.toNat_natCast]; omega⟩ (J0 _ hlt (by simp only [Int.toNat_natCast]))⟩
  · have hjn' : j = n := by omega
    subst hjn'
    rw [<- hla] at hv
    have hval := sub_end hlo (by omega) (by omega) hab hc0 hc1 hv
    refine Ret.at (spec_l02Trim_c hown.ints) ?_
    rintro v w4 ⟨hv4, hw4, hr4⟩
    subst hv4; subst hw4
    refine ⟨_, _, _, rfl, _, _, _, rfl, ?_, hx⟩
    have e := trimL_eq hlo
    rw [hval] at e
    rw [<- e]
    have hle := trimL_len o
    have := hown.sub (m := (trimL o).length) (by omega)
    rwa [<- trimL_prefix] at this
theorem spec_l03Digit_c {w : World} {p q : Option Addr} {n c m d : Nat} {a b : List Int} (h : IntsR w p n c a) (k : IntsR w q m d b) (ha : Canon a) (hb : Canon b) (hb0 : 0 < m) (hm : m <= 100000) (hlt : val a < 1000000000 * val b) :
    Ret P n_spec_l03Digit [.slice p n c, .slice q m d] w fun v w' => v = .int .i64 (val a / val b) /\ Ext w w' := by
  refine spec_l03Digit_ret ?_
  unfold spec_l03Digit
  have hla := h.1; have hlb := k.1
  have va0 := val_nonneg ha.1
  have vb0 : 0 < val b := canon_pos hb (by intro e; rw [e] at hlb; simp at hlb; omega)
  refine ⟨fun lo hi wr => Ext w wr /\ 0 <= lo /\ lo <= hi /\ hi <= 999999999 /\ lo * val b <= val a /\ val a < (hi + 1) * val b, fun lo hi _ => (hi - lo).toNat, ⟨Ext.refl _, by omega, by omega, by omega, by omega, by omega⟩, ?_⟩
  intro junk wr lo hi ⟨hx, h0, h1, h2, hl, hh⟩
  refine ifD (fun hmore => ?_) (fun hend => ?_)
  · refine exW ⟨by omega, by omega⟩ (exW ⟨by omega, by omega⟩ ⟨by decide, ?_⟩)
    rw [Int.tdiv_eq_ediv_of_nonneg (by omega)]
    refine exW ⟨by omega, by omega⟩ ?_
    have Q1 : lo < (lo + hi + 1) / 2 := by omega
    have Q2 : (lo + hi + 1) / 2 <= hi := by omega
    generalize (lo + hi + 1) / 2 = z at Q1 Q2
    refine Ret.at (spec_NatOf_c (show 0 <= z by omega) (by omega)) ?_
    rintro v w1 ⟨p1, n1, c1, hv, o1, y1⟩
    subst hv
    refine ⟨_, _, _, rfl, ?_⟩
    have ln1 : n1 <= 1 := by
      have e := o1.len
      have := digs_lenI (z := z) (k := 1) (by omega) (by rw [show (1000000000 : Int) ^ 1 = 1000000000 from rfl]; omega)
      simp only [List.length_map] at e
      omega
    refine Ret.at (spec_l02Mul_c (k.ext (hx.trans y1)) o1.ints hb.1 (digs_limbs _) (by omega) (by omega)) ?_
    rintro v w2 ⟨p2, n2, c2, hv, o2, y2⟩
    subst hv
    refine ⟨_, _, _, rfl, ?_⟩
    rw [val_digsI (by omega)] at o2
    have Z0 : 0 <= val b * z := Int.mul_nonneg (by omega) (by omega)
    refine Ret.at (spec_l02Cmp_c o2.ints (h.ext (hx.trans (y1.trans y2)))) ?_
    rintro v w3 ⟨hv, y3⟩
    subst hv
    have hc := cmpL_val (digs_canon (val b * z).toNat) ha
    rw [val_digsI Z0] at hc
    have ezb := Int.mul_comm (val b) z
    refine ⟨_, rfl, ifD (fun hle => ⟨⟨hx.trans (y1.trans (y2.trans y3)), by omega, by omega, by omega, by rcases hc with h | h | h <;> omega, hh⟩, ?_⟩) (fun hgt => exW ⟨by omega, by omega⟩ ⟨⟨hx.trans (y1.trans (y2.trans y3)), by omega, by omega, by omega, hl, ?_⟩, ?_⟩)⟩
    · show (hi - z).toNat < (hi - lo).toNat
      omega
    · rw [Int.sub_add_cancel]; rcases hc with h | h | h <;> omega
    · show (z - 1 - lo).toNat < (hi - lo).toNat
      omega
  · have : lo = hi := by omega
    subst this
    refine ⟨?_, hx⟩
    congr 1
    have e : val a = (val a - lo * val b) + val b * lo := by rw [Int.mul_comm (val b)]; omega
    rw [Int.add_mul, Int.one_mul] at hh
    rw [e, Int.add_mul_ediv_left _ _ (by omega), Int.ediv_eq_zero_of_lt (by omega) (by omega), Int.zero_add]
theorem spec_l03Div_o {w : World} {p q : Option Addr} {n c m d : Nat} {a b : List Int} (h : IntsR w p n c a) (k : IntsR w q m d b) (ha : Limbs a) (hb : Canon b) (hb0 : 0 < m) (hn : n <= 100000) (hm : m <= 100000) :
    Ret P n_spec_l03Div [.slice p n c, .slice q m d] w fun v w' => ∃ p1 n1 c1 p2 n2 c2, v = .tuple #[.slice p1 n1 c1, .slice p2 n2 c2] /\ Own w' w.heap.size T_int 1 p1 n1 c1 ((digs (val a / val b).toNat).map (Value.int .i64)) /\ IntsR w' p2 n2 c2 (digs (val a % val b).toNat) /\ Ext w w' := by
  refine spec_l03Div_ret ?_
  unfold spec_l03Div
  have hla := h.1; have hlb := k.1
  have va0 := val_nonneg ha
  have vb0 : 0 < val b := canon_pos hb (by intro e; rw [e] at hlb; simp at hlb; omega)
  refine ifD (fun hone => ?_) (fun hmore => ?_)
  · have hm1 : m = 1 := by omega
    subst hm1
    have hB := hb.1.getD 0
    have hT := canon_top (m := 0) hb (by omega)
    have ev : val b = b.getD 0 0 := by
      have := val_top (m := 0) hlb
      simpa [val] using this
    obtain ⟨ad, rfl, hl⟩ := ints_at k (i := 0) (by omega) (by omega)
    refine ⟨⟨by omega, by omega⟩, _, by simpa only [Int.toNat_zero] using hl, ?_⟩
    rw [ev]
    simp only [Int.toNat_zero]
    refine Ret.at (spec_l03Small_c h ha ⟨by omega, by omega⟩ (by omega)) ?_
    rintro v w2 ⟨p1, n1, c1, hv, o1, y2⟩
    subst hv
    have Z0 := Int.emod_nonneg (val a) (show b.getD 0 0 ≠ 0 by omega)
    have Z1 := Int.emod_lt_of_pos (val a) (show 0 < b.getD 0 0 by omega)
    refine ⟨_, _, _, _, rfl, ?_⟩
    refine Ret.at (spec_NatOf_c Z0 (by omega)) ?_
    rintro v w3 ⟨p2, n2, c2, hv, o2, y3⟩
    subst hv
    exact ⟨_, _, _, rfl, _, _, _, _, _, _, rfl, o1.ext y3, o2.ints, y2.trans y3⟩
  · refine ⟨⟨by omega, by omega, by omega⟩, ?_⟩
    intro r w1 hn1 r1 w2 hn2
    have e1 := hn1.r_eq; have e2 := hn2.r_eq; have s1 := hn1.size
    have x2 := hn1.ext.trans hn2.ext
    have hb1 := hn1.blk
    rw [zeroRow_int, Nat.mul_one] at hb1
    refine exW ⟨by omega, by omega⟩ ⟨fun rp rn rc i wr => ∃ (s : Nat) (o : List Int) (R : Int), i = (s : Int) - 1 /\ s <= n /\ o.length = n /\ Blk wr r T_int (o.map (Value.int .i64)) /\ Ext w wr /\ Limbs o /\ (∀ z, z < s -> o.getD z 0 = 0) /\ 0 <= R /\ R < val b /\ IntsR wr rp rn rc (digs R.toNat) /\ (∀ z, rp.map (·.block) = some z -> z ≠ r) /\ val (a.drop s) = val b * val (o.drop s) + R, fun _ _ _ i _ => (i + 1).toNat,
      ⟨n, List.replicate n 0, 0, rfl, by omega, by simp, by simpa using hb1.ext hn2.ext, x2, Limbs.zeros _, fun z hz => by simp [List.getD_eq_getElem?_getD, hz], by omega, by omega, ?_, ?_, by rw [List.drop_of_length_le (by omega), List.drop_of_length_le (by simp)]; simp [val]⟩, ?_⟩
    · simp only [Int.toNat_zero, digs_zero]; exact (Own.fresh hn2).ints
    · intro z hz; simp at hz; omega
    intro junk wr rp rn rc i ⟨s, o, R, hi, hsn, hol, hblk, hx, hlo, hoz, hR0, hR1, hR, hRb, hv⟩
    subst hi
    have lx := hx.le
    refine ifD (fun hpos => ?_) (fun hend => ?_)
    · obtain ⟨t, rfl⟩ : ∃ t, s = t + 1 := ⟨s - 1, by omega⟩
      have A := ha.getD t
      have ei : ((t + 1 : Nat) : Int) - 1 = (t : Int) := by omega
      rw [ei]
      obtain ⟨ad, rfl, hl⟩ := ints_at (h.ext hx) (i := (t : Int)) (by omega) (by omega)
      simp only [Int.toNat_natCast] at hl ⊢
      refine ⟨⟨by omega, by omega⟩, _, hl, ?_⟩
      intro r2 w3 hn3
      have e3 := hn3.r_eq
      have lR : (digs R.toNat).length <= m := by
        have hbl := val_lt hb.1
        rw [hlb] at hbl
        exact digs_lenI hR0 (by omega)
      have lR2 := hR.1
      obtain ⟨p4, c4, w4, ap, o4, x4⟩ := Own.appendI (w := w3) (base := wr.heap.size) (p := some ⟨r2, 0, none⟩) (n := 1) (c := 1) (zs := [a.getD t 0]) (Own.of_blk hn3.blk (by omega) rfl (by simp only [maxLen]; omega)) hn3.ext.le (hR.ext hn3.ext) (by omega)
      refine ⟨_, _, _, _, ap, ?_⟩
      have X4 : Ext wr w4 := x4 wr hn3.ext (Nat.le_refl _)
      have hlim4 : Limbs ([a.getD t 0] ++ digs R.toNat) := Limbs.append.2 ⟨Limbs.cons.2 ⟨A, Limbs.nil⟩, digs_limbs _⟩
      have hval4 : val ([a.getD t 0] ++ digs R.toNat) = a.getD t 0 + 1000000000 * R := by
        rw [List.singleton_append, val, val_digsI hR0]
      refine Ret.at (spec_l02Trim_c o4.ints) ?_
      rintro v w5 ⟨hv5, hw5, hr5⟩
      subst hv5; subst hw5
      rw [trimL_eq hlim4, hval4] at hr5 ⊢
      have hN0 : 0 <= a.getD t 0 + 1000000000 * R := by omega
      have hN1 : a.getD t 0 + 1000000000 * R < 1000000000 * val b := by omega
      generalize hN : a.getD t 0 + 1000000000 * R = N at hr5 hN0 hN1
      have hNv := val_digsI hN0
      have hNl : (digs N.toNat).length <= m + 1 := by
        refine digs_lenI hN0 ?_
        have hbl := val_lt hb.1
        rw [hlb] at hbl
        rw [Int.pow_succ]; omega
      refine ⟨_, _, _, rfl, ?_⟩
      have p4b : ∀ z, p4.map (·.block) = some z -> z ≠ r := fun z hz e => by
        have := (World.ownsRow.lt o4 z (by rw [<- hz]; cases p4 <;> rfl)).1
        have := hblk.lt
        omega
      refine Ret.at (spec_l02Cmp_c hr5 (k.ext (hx.trans X4))) ?_
      rintro v w6 ⟨hv6, y6⟩
      subst hv6
      have hc := cmpL_val (digs_canon N.toNat) hb
      rw [hNv] at hc
      have ea : a.drop t = a.getD t 0 :: a.drop (t + 1) := by
        rw [List.drop_eq_getElem_cons (by omega), List.getD_eq_getElem?_getD, List.getElem?_eq_getElem (by omega)]; rfl
      have eo : ∀ x : Int, (o.set t x).drop t = x :: o.drop (t + 1) := fun x => by
        rw [List.drop_eq_getElem_cons (by simp; omega), List.getElem_set_self, List.drop_set_of_lt (by omega)]
      have hstep : ∀ x : Int, val (a.drop t) = val b * val (x :: o.drop (t + 1)) + (N - val b * x) := fun x => by
        rw [ea, val, val, hv, Int.mul_add (val b)]
        have : val b * (1000000000 * val (o.drop (t + 1))) = 1000000000 * (val b * val (o.drop (t + 1))) := by rw [Int.mul_left_comm]
        omega
      have es : o.drop t = 0 :: o.drop (t + 1) := by
        have := hoz t (by omega)
        rw [List.drop_eq_getElem_cons (by omega)]
        rw [List.getD_eq_getElem?_getD, List.getElem?_eq_getElem (by omega)] at this
        simp only [Option.getD_some] at this
        rw [this]
      refine ⟨_, rfl, ifD (fun hless => ?_) (fun hnot => ?_)⟩
      · unfold spec_l03Div_j0
        have X6 := X4.trans y6
        refine exW ⟨by omega, by omega⟩ ⟨⟨t, o, N, by omega, by omega, hol, hblk.ext X6, hx.trans X6, hlo, fun z hz => hoz z (by omega), hN0, by rcases hc with h | h | h <;> omega, hr5.ext y6, p4b, ?_⟩, ?_⟩
        · rw [es, hstep 0, Int.mul_zero, Int.sub_zero]
        · show ((t : Int) - 1 + 1).toNat < ((t : Int) + 1).toNat
          omega
      · have X6 := X4.trans y6
        refine Ret.at (spec_l03Digit_c (hr5.ext y6) (k.ext (hx.trans X6)) (digs_canon _) hb hb0 hm (by rw [hNv]; exact hN1)) ?_
        rintro v w7 ⟨hv7, y7⟩
        subst hv7
        rw [hNv]
        have Q0 : 0 <= N / val b := Int.ediv_nonneg hN0 (by omega)
        have Q1 : N / val b < 1000000000 := Int.ediv_lt_of_lt_mul vb0 (by omega)
        have QE := Int.mul_ediv_add_emod N (val b)
        have QM0 := Int.emod_nonneg N (show val b ≠ 0 by omega)
        have QM1 := Int.emod_lt_of_pos N vb0
        generalize N / val b = x at Q0 Q1 QE
        have X7 := X6.trans y7
        have hblk7 := hblk.ext X7
        obtain ⟨w8, st, hb8, ch8, sz8⟩ := blk_set hblk7 (i := (t : Int)) (by omega) (by omega) x
        simp only [Int.toNat_natCast] at st hb8
        have x8 : Ext w w8 := (hx.trans X7).chg ch8 (by simp; omega)
        refine ⟨_, rfl, ⟨by omega, by omega⟩, w8, st, ?_⟩
        refine Ret.at (spec_NatOf_c Q0 (by omega)) ?_
        rintro v w9 ⟨p9, n9, c9, hv, o9, y9⟩
        subst hv
        refine ⟨_, _, _, rfl, ?_⟩
        have ln9 : n9 <= 1 := by
          have e := o9.len
          have := digs_lenI (z := x) (k := 1) (by omega) (by rw [show (1000000000 : Int) ^ 1 = 1000000000 from rfl]; omega)
          simp only [List.length_map] at e
          omega
        refine Ret.at (spec_l02Mul_c (k.ext (x8.trans y9)) o9.ints hb.1 (digs_limbs _) (by omega) (by omega)) ?_
        rintro v w10 ⟨p10, n10, c10, hv, o10, y10⟩
        subst hv
        refine ⟨_, _, _, rfl, ?_⟩
        rw [val_digsI Q0] at o10
        have M0 : 0 <= val b * x := Int.mul_nonneg (by omega) Q0
        have hr8 := ((hr5.ext (y6.trans y7)).chg ch8 (fun z hz hm => p4b z hz (by simpa using hm))).ext (y9.trans y10)
        have hle : (digs (val b * x).toNat).length <= (digs N.toNat).length := by
          refine digs_lenI M0 ?_
          have := val_lt (digs_limbs N.toNat)
          rw [hNv] at this
          omega
        have l10 := o10.len
        simp only [List.length_map] at l10
        refine Ret.at (spec_l02Sub_o hr8 o10.ints (digs_limbs _) (digs_limbs _) (by omega) (by omega) (by rw [hNv, val_digsI M0]; omega)) ?_
        rintro v w11 ⟨p11, n11, c11, hv, o11, y11⟩
        subst hv
        rw [hNv, val_digsI M0] at o11
        refine ⟨_, _, _, rfl, ?_⟩
        unfold spec_l03Div_j0
        have X11 := y9.trans (y10.trans y11)
        refine exW ⟨by omega, by omega⟩ ⟨⟨t, o.set t x, N - val b * x, by omega, by omega, by simpa using hol, hb8.ext X11, x8.trans X11, hlo.set ⟨Q0, Q1⟩, fun z hz => by rw [getD_set_ne _ (by omega)]; exact hoz z (by omega), by omega, by omega, o11.ints, ?_, ?_⟩, ?_⟩
        · intro z hz e
          have := (World.ownsRow.lt o11 z (by rw [<- hz]; cases p11 <;> rfl)).1
          have := hblk7.lt; have := y9.le; have := y10.le
          omega
        · rw [eo, hstep x]
        · show ((t : Int) - 1 + 1).toNat < ((t : Int) + 1).toNat
          omega
    · have hs0 : s = 0 := by omega
      subst hs0
      simp only [List.drop_zero] at hv
      have hown : Own wr w.heap.size T_int 1 (some ⟨r, 0, none⟩) n n (o.map (Value.int .i64)) := Own.of_blk hblk (by omega) (by simp [hol]) (by simp only [maxLen]; omega)
      refine Ret.at (spec_l02Trim_c hown.ints) ?_
      rintro v w4 ⟨hv4, hw4, hr4⟩
      subst hv4; subst hw4
      have e1 : val a / val b = val o := by rw [hv, Int.mul_comm, Int.add_comm, Int.add_mul_ediv_right _ _ (by omega), Int.ediv_eq_zero_of_lt hR0 hR1, Int.zero_add]
      have e2 : val a % val b = R := by rw [hv, Int.mul_comm, Int.add_comm, Int.add_mul_emod_self_right, Int.emod_eq_of_lt hR0 hR1]
      have hle := trimL_len o
      have hsub := hown.sub (m := (trimL o).length) (by omega)
      rw [<- trimL_prefix, trimL_eq hlo] at hsub
      rw [trimL_eq hlo]
      refine ⟨_, _, _, rfl, _, _, _, _, _, _, rfl, by rw [e1]; exact hsub, by rw [e2]; exact hR, hx⟩
theorem spec_l03Div_c {w : World} {p q : Option Addr} {n c m d : Nat} {a b : List Int} (h : IntsR w p n c a) (k : IntsR w q m d b) (ha : Limbs a) (hb : Canon b) (hb0 : 0 < m) (hn : n <= 100000) (hm : m <= 100000) :
    Ret P n_spec_l03Div [.slice p n c, .slice q m d] w fun v w' => ∃ p1 n1 c1 p2 n2 c2, v = .tuple #[.slice p1 n1 c1, .slice p2 n2 c2] /\ IntsR w' p1 n1 c1 (digs (val a / val b).toNat) /\ IntsR w' p2 n2 c2 (digs (val a % val b).toNat) /\ Ext w w' :=
  (spec_l03Div_o h k ha hb hb0 hn hm).mono fun v w' ⟨p1, n1, c1, p2, n2, c2, hv, o1, i2, y⟩ => ⟨p1, n1, c1, p2, n2, c2, hv, o1.ints, i2, y⟩
end Go.Proofs.YtfehpaekbbmkcaaGreatDoor
namespace Go.Proofs.YtfehpaekbbmkcaaGreatDoor
open Go Go.Proofs.YtfehpaekbbmkcaaGreatDoor.Sx
theorem ints_uniq {w : World} {p : Option Addr} {n c : Nat} {zs ys : List Int} (h : IntsR w p n c zs) (k : IntsR w p n c ys) : zs = ys := by
  have h1 := h.1; have k1 := k.1
  apply List.ext_getElem (by omega)
  intro i hi hj
  obtain ⟨b, o, hp, hs⟩ := h.2.2.2 (by omega)
  obtain ⟨b', o', hp', hs'⟩ := k.2.2.2 (by omega)
  rw [hp] at hp'
  obtain ⟨rfl, rfl⟩ : b = b' /\ o = o' := by injection hp' with e; injection e with e1 e2; exact ⟨e1, e2⟩
  have a1 := hs i (.int .i64 zs[i]) (by simp [hi])
  have a2 := hs' i (.int .i64 ys[i]) (by simp [hj])
  rw [a1] at a2
  injection a2 with e; injection e
theorem digs_inj {x y : Nat} (h : digs x = digs y) : x = y := by
  have := congrArg val h
  rw [val_digs, val_digs] at this
  omega
theorem numAt_ex : ∃ f : World -> Option Addr -> Nat -> Nat -> Nat, ∀ W p n c y, IntsR W p n c (digs y) -> f W p n c = y := by
  refine ⟨fun W p n c => @dite _ (∃ y, IntsR W p n c (digs y)) (Classical.propDecidable _) (fun h => Classical.choose h) (fun _ => 0), fun W p n c y h => ?_⟩
  have hx : ∃ y, IntsR W p n c (digs y) := ⟨y, h⟩
  show @dite _ (∃ y, IntsR W p n c (digs y)) (Classical.propDecidable _) (fun h => Classical.choose h) (fun _ => 0) = y
  rw [dif_pos hx]
  exact digs_inj (ints_uniq (Classical.choose_spec hx) h)
theorem emod_toNat (x y : Nat) : (((x : Int) % (y : Int)).toNat) = x % y := by
  rw [<- Int.natCast_emod]; exact Int.toNat_natCast _
theorem ediv_toNat (x y : Nat) : (((x : Int) / (y : Int)).toNat) = x / y := by
  rw [<- Int.natCast_ediv]; exact Int.toNat_natCast _
theorem digs_mod_len {x y : Nat} (h : 0 < y) : (digs (x % y)).length <= (digs y).length := by
  refine digs_len _ ?_
  have h1 := val_lt (digs_limbs y)
  rw [val_digs] at h1
  have : ((y : Nat) : Int) < ((1000000000 ^ (digs y).length : Nat) : Int) := by simpa using h1
  exact Nat.lt_trans (Nat.mod_lt _ h) (Int.ofNat_lt.1 this)
theorem digs_mono_len {x y : Nat} (h : x <= y) : (digs x).length <= (digs y).length := by
  refine digs_len _ ?_
  have h1 := val_lt (digs_limbs y)
  rw [val_digs] at h1
  have : ((y : Nat) : Int) < ((1000000000 ^ (digs y).length : Nat) : Int) := by simpa using h1
  exact Nat.lt_of_le_of_lt h (Int.ofNat_lt.1 this)
theorem gcd_step (x y : Nat) : Nat.gcd y (x % y) = Nat.gcd x y := by
  rw [Nat.gcd_comm x y, Nat.gcd_rec y x, Nat.gcd_comm]
theorem impl_natGcd_c {w : World} {p q : Option Addr} {n c m d : Nat} {x y : Nat} (h : IntsR w p n c (digs x)) (k : IntsR w q m d (digs y)) (hn : n <= 100000) (hm : m <= 100000) :
    Ret P n_impl_natGcd [.slice p n c, .slice q m d] w fun v w' => ∃ p' n' c', v = .slice p' n' c' /\ Own w' w.heap.size T_int 1 p' n' c' ((digs (Nat.gcd x y)).map (Value.int .i64)) /\ Ext w w' := by
  refine impl_natGcd_ret ?_
  unfold impl_natGcd
  obtain ⟨f, hf⟩ := numAt_ex
  refine ⟨fun ap an ac bp bn bc wr => ∃ s t, IntsR wr ap an ac (digs s) /\ IntsR wr bp bn bc (digs t) /\ an <= 100000 /\ bn <= 100000 /\ Ext w wr /\ Nat.gcd s t = Nat.gcd x y, fun _ _ _ bp bn bc W => f W bp bn bc, ⟨x, y, h, k, hn, hm, Ext.refl _, rfl⟩, ?_⟩
  intro junk wr ap an ac bp bn bc ⟨s, t, ha, hb, han, hbn, hx, hg⟩
  have hbl := hb.1
  refine ifD (fun hlt => ?_) (fun hge => ?_)
  · have ht : 0 < t := by
      rcases Nat.eq_zero_or_pos t with e | e
      · subst e; rw [digs_zero] at hbl; simp at hbl; omega
      · exact e
    refine Ret.at (impl_natDiv_c ha hb (digs_canon _) (digs_canon _) (by omega) han hbn) ?_
    rintro v w1 ⟨p1, n1, c1, p2, n2, c2, hv, o1, o2, _, y1⟩
    subst hv
    rw [val_digs, val_digs, emod_toNat] at o2
    have hn2 : n2 <= bn := by
      have := o2.len
      simp only [List.length_map] at this
      have := digs_mod_len (x := s) ht
      omega
    refine ⟨_, _, _, _, _, _, rfl, ⟨t, s % t, hb.ext y1, o2.ints, hbn, by omega, hx.trans y1, by rw [gcd_step, hg]⟩, ?_⟩
    show f w1 p2 n2 c2 < f wr bp bn bc
    rw [hf _ _ _ _ _ o2.ints, hf _ _ _ _ _ hb]
    exact Nat.mod_lt _ ht
  · have ht : t = 0 := by
      have : bn = 0 := by omega
      rw [this] at hbl
      exact digs_nil.1 (List.eq_nil_of_length_eq_zero hbl)
    subst ht
    rw [Nat.gcd_zero_right] at hg
    subst hg
    refine Ret.at (impl_natCopy_c ha (by omega)) ?_
    rintro v w1 ⟨p', c', hv, ho, y1⟩
    subst hv
    exact ⟨_, _, _, rfl, _, _, _, rfl, ho.mono hx.le, hx.trans y1⟩
theorem spec_NatGcd_c {w : World} {p q : Option Addr} {n c m d : Nat} {x y : Nat} (h : IntsR w p n c (digs x)) (k : IntsR w q m d (digs y)) (hn : n <= 50) (hm : m <= 50) :
    Ret P n_spec_NatGcd [.slice p n c, .slice q m d] w fun v w' => ∃ p' n' c', v = .slice p' n' c' /\ IntsR w' p' n' c' (digs (Nat.gcd x y)) /\ Ext w w' := by
  refine spec_NatGcd_ret ?_
  unfold spec_NatGcd
  have hl := h.1; have kl := k.1
  have okx : natOk (digs x) = true := natOk_spec.2 ⟨digs_canon x, by omega⟩
  have oky : natOk (digs y) = true := natOk_spec.2 ⟨digs_canon y, by omega⟩
  refine Ret.at (spec_NatOk_c h) ?_
  rintro v w1 ⟨hv, y1⟩
  subst hv
  refine ⟨_, rfl, ifN (fun e => by rw [okx] at e; cases e) (fun _ => ?_)⟩
  refine Ret.at (spec_NatOk_c (k.ext y1)) ?_
  rintro v w2 ⟨hv, y2⟩
  subst hv
  refine ⟨_, rfl, ifN (fun e => by rw [oky] at e; cases e) (fun _ => ?_)⟩
  have x2 := y1.trans y2
  unfold spec_NatGcd_j0
  intro r w3 hn3
  obtain ⟨p4, c4, w4, ap4, o4, x4⟩ := Own.appendI (Own.fresh hn3) hn3.ext.le (h.ext (x2.trans hn3.ext)) (by omega)
  rw [List.nil_append, Nat.zero_add] at o4
  rw [Nat.zero_add] at ap4
  have X4 := x4 w2 hn3.ext (Nat.le_refl _)
  refine ⟨_, _, _, _, ap4, ?_⟩
  intro r5 w5 hn5
  obtain ⟨p6, c6, w6, ap6, o6, x6⟩ := Own.appendI (Own.fresh hn5) hn5.ext.le (k.ext ((x2.trans X4).trans hn5.ext)) (by omega)
  rw [List.nil_append, Nat.zero_add] at o6
  rw [Nat.zero_add] at ap6
  have X6 := x6 w4 hn5.ext (Nat.le_refl _)
  refine ⟨_, _, _, _, ap6, ?_⟩
  obtain ⟨f, hf⟩ := numAt_ex
  refine ⟨fun ap an ac bp bn bc wr => ∃ s t, IntsR wr ap an ac (digs s) /\ IntsR wr bp bn bc (digs t) /\ an <= 100000 /\ bn <= 100000 /\ Ext w wr /\ Nat.gcd s t = Nat.gcd x y, fun _ _ _ bp bn bc W => f W bp bn bc, ⟨x, y, (o4.ext X6).ints, o6.ints, by omega, by omega, (x2.trans X4).trans X6, rfl⟩, ?_⟩
  intro junk wr ap an ac bp bn bc ⟨s, t, ha, hb, han, hbn, hx, hg⟩
  have hbl := hb.1
  refine ifD (fun hlt => ?_) (fun hge => ?_)
  · have ht : 0 < t := by
      rcases Nat.eq_zero_or_pos t with e | e
      · subst e; rw [digs_zero] at hbl; simp at hbl; omega
      · exact e
    refine Ret.at (spec_l03Div_c ha hb (digs_limbs _) (digs_canon _) (by omega) han hbn) ?_
    rintro v w1 ⟨p1, n1, c1, p2, n2, c2, hv, o1, o2, y1⟩
    subst hv
    rw [val_digs, val_digs, emod_toNat] at o2
    have hn2 : n2 <= bn := by
      have := o2.1
      have := digs_mod_len (x := s) ht
      omega
    refine ⟨_, _, _, _, _, _, rfl, ⟨t, s % t, hb.ext y1, o2, hbn, by omega, hx.trans y1, by rw [gcd_step, hg]⟩, ?_⟩
    show f w1 p2 n2 c2 < f wr bp bn bc
    rw [hf _ _ _ _ _ o2, hf _ _ _ _ _ hb]
    exact Nat.mod_lt _ ht
  · have ht : t = 0 := by
      have : bn = 0 := by omega
      rw [this] at hbl
      exact digs_nil.1 (List.eq_nil_of_length_eq_zero hbl)
    subst ht
    rw [Nat.gcd_zero_right] at hg
    subst hg
    exact ⟨_, _, _, rfl, ha, hx⟩
def ratOk : List D0 -> Bool
  | [.bool s, .ints x, .ints y] => intOk [.bool s, .ints x] && natOk y && !y.isEmpty && decide (y.length <= 18) && decide (x.length <= 18) && decide (Nat.gcd (val x).toNat (val y).toNat = 1)
  | _ => false
theorem digs_one : digs 1 = [1] := by rw [digs_pos (by decide)]; simp [digs_zero]
theorem gcd_one {l : List Int} {g : Nat} (h : l = digs g) : (decide (g = 1)) = (decide (l.length = 1) && decide (l.getD 0 0 = 1)) := by
  subst h
  by_cases e : g = 1
  · subst e; rw [digs_one]; rfl
  · rw [decide_eq_false e]
    symm
    rw [Bool.and_eq_false_iff]
    by_cases h1 : (digs g).length = 1
    · right
      rw [decide_eq_false_iff_not]
      intro h2
      apply e
      have hv := val_digs g
      have := val_top (m := 0) h1
      rw [h2] at this
      simp [val] at this
      omega
    · left; simp [h1]
theorem impl_RatOk_c {w : World} {xs : List Value} {dx : List D0} (h : Reps w xs dx) (hc : dx.map D0.code = [.bool, .ints, .ints]) :
    Ret P n_impl_RatOk [.agg ⟨xs⟩] w fun v w' => v = .bool (ratOk dx) /\ Ext w w' := by
  have hr := h
  obtain ⟨a0, a1p, a1n, a1c, a1z, a2p, a2n, a2c, a2z, rfl, rfl, ir1, ir2⟩ := open_Rat h hc
  refine impl_RatOk_ret ?_
  unfold impl_RatOk
  intro r w1 hn1
  have l1 := ir1.1; have l2 := ir2.1
  have hi : Reps w1 [.bool a0, .slice a1p a1n a1c] [.bool a0, .ints a1z] := ⟨rfl, ⟨_, _, _, rfl, ir1.ext hn1.ext⟩, trivial⟩
  have b := hn1.blk
  refine ⟨_, _, _, _, b.loadAAt 0 [.bool a0, .slice a1p a1n a1c] rfl (by kernel_rfl) rfl, ?_⟩
  refine Ret.at (impl_IntOk_c hi rfl) ?_
  rintro v w2 ⟨hv, y2⟩
  subst hv
  have b2 := b.ext y2
  have X2 := hn1.ext.trans y2
  refine ⟨_, rfl, ifN (fun e => ifT (ifT (ifT (ifT ⟨by simp [ratOk, e], X2⟩)))) (fun e1 => ⟨_, _, _, b2.loadAt 2 rfl (by kernel_rfl) rfl, ?_⟩)⟩
  refine Ret.at (impl_NatOk_c (ir2.ext X2)) ?_
  rintro v w3 ⟨hv, y3⟩
  subst hv
  have b3 := b2.ext y3
  have X3 := X2.trans y3
  refine ⟨_, rfl, ifN (fun e => ifT (ifT (ifT ⟨by simp [ratOk, e], X3⟩))) (fun e2 => ⟨_, _, _, b3.loadAt 2 rfl (by kernel_rfl) rfl, ifD (fun e => ifT (ifT ⟨?_, X3⟩)) (fun e3 => ⟨_, _, _, b3.loadAt 2 rfl (by kernel_rfl) rfl, ifD (fun e => ifT ⟨?_, X3⟩) (fun e4 => ⟨_, _, _, b3.loadAt 1 rfl (by kernel_rfl) rfl, ifD (fun e => ⟨?_, X3⟩) (fun e5 => ?_)⟩)⟩)⟩)⟩
  · have : a2z = [] := List.eq_nil_of_length_eq_zero (by omega)
    simp [ratOk, this]
  · simp only [ratOk, show decide (a2z.length <= 18) = false by simp; omega, Bool.and_false, Bool.false_and]
  · simp only [ratOk, show decide (a1z.length <= 18) = false by simp; omega, Bool.and_false, Bool.false_and]
  unfold impl_RatOk_j0
  have ok1 := natOk_spec.1 e2
  have ok0 := (intOk_enc e1).2
  obtain ⟨b', z', ez, can1, _⟩ := ok0
  simp only [List.cons.injEq, D0.ints.injEq, D0.bool.injEq, and_true] at ez
  obtain ⟨_, rfl⟩ := ez
  have r1 := ir1.ext X3; have r2 := ir2.ext X3
  rw [<- digs_val can1] at r1
  rw [<- digs_val ok1.1] at r2
  refine ⟨_, _, _, b3.loadAt 1 rfl (by kernel_rfl) rfl, _, _, _, b3.loadAt 2 rfl (by kernel_rfl) rfl, ?_⟩
  refine Ret.at (impl_natGcd_c r1 r2 (by omega) (by omega)) ?_
  rintro v w4 ⟨p', n', c', hv, ho, y4⟩
  subst hv
  have hlen := ho.len
  simp only [List.length_map] at hlen
  have g := gcd_one (g := Nat.gcd (val a1z).toNat (val a2z).toNat) rfl
  have hne : a2z.isEmpty = false := by cases a2z with
    | nil => simp at l2; omega
    | cons => rfl
  have val' : ratOk [.bool a0, .ints a1z, .ints a2z] = decide (Nat.gcd (val a1z).toNat (val a2z).toNat = 1) := by
    simp only [ratOk, e1, e2, hne, show decide (a2z.length <= 18) = true by simp; omega, show decide (a1z.length <= 18) = true by simp; omega, Bool.not_false, Bool.and_self, Bool.true_and]
  rw [val', g]
  refine ⟨_, _, _, rfl, ifD (fun h1 => ?_) (fun h1 => ⟨?_, X3.trans y4⟩)⟩
  · obtain ⟨ad, rfl, hl⟩ := ints_at ho.ints (i := 0) (by omega) (by omega)
    refine ⟨⟨by omega, by omega⟩, _, by simpa only [Int.toNat_zero] using hl, ?_, X3.trans y4⟩
    rw [show decide ((digs (Nat.gcd (val a1z).toNat (val a2z).toNat)).length = 1) = true by simp; omega, Bool.true_and]
  · rw [show decide ((digs (Nat.gcd (val a1z).toNat (val a2z).toNat)).length = 1) = false by simp; omega, Bool.false_and]
theorem spec_RatOk_c {w : World} {xs : List Value} {dx : List D0} (h : Reps w xs dx) (hc : dx.map D0.code = [.bool, .ints, .ints]) :
    Ret P n_spec_RatOk [.agg ⟨xs⟩] w fun v w' => v = .bool (ratOk dx) /\ Ext w w' := by
  have hr := h
  obtain ⟨a0, a1p, a1n, a1c, a1z, a2p, a2n, a2c, a2z, rfl, rfl, ir1, ir2⟩ := open_Rat h hc
  refine spec_RatOk_ret ?_
  unfold spec_RatOk
  intro r w1 hn1
  have l1 := ir1.1; have l2 := ir2.1
  have hi : Reps w1 [.bool a0, .slice a1p a1n a1c] [.bool a0, .ints a1z] := ⟨rfl, ⟨_, _, _, rfl, ir1.ext hn1.ext⟩, trivial⟩
  have b := hn1.blk
  refine ⟨_, _, _, _, b.loadAAt 0 [.bool a0, .slice a1p a1n a1c] rfl (by kernel_rfl) rfl, ?_⟩
  refine Ret.at (spec_IntOk_c hi rfl) ?_
  rintro v w2 ⟨hv, y2⟩
  subst hv
  have b2 := b.ext y2
  have X2 := hn1.ext.trans y2
  refine ⟨_, rfl, ifN (fun e => ifT (ifT (ifT (ifT ⟨by simp [ratOk, e], X2⟩)))) (fun e1 => ⟨_, _, _, b2.loadAt 2 rfl (by kernel_rfl) rfl, ?_⟩)⟩
  refine Ret.at (spec_NatOk_c (ir2.ext X2)) ?_
  rintro v w3 ⟨hv, y3⟩
  subst hv
  have b3 := b2.ext y3
  have X3 := X2.trans y3
  refine ⟨_, rfl, ifN (fun e => ifT (ifT (ifT ⟨by simp [ratOk, e], X3⟩))) (fun e2 => ⟨_, _, _, b3.loadAt 2 rfl (by kernel_rfl) rfl, ifD (fun e => ifT (ifT ⟨?_, X3⟩)) (fun e3 => ⟨_, _, _, b3.loadAt 2 rfl (by kernel_rfl) rfl, ifD (fun e => ifT ⟨?_, X3⟩) (fun e4 => ⟨_, _, _, b3.loadAt 1 rfl (by kernel_rfl) rfl, ifD (fun e => ⟨?_, X3⟩) (fun e5 => ?_)⟩)⟩)⟩)⟩
  · have : a2z = [] := List.eq_nil_of_length_eq_zero (by omega)
    simp [ratOk, this]
  · simp only [ratOk, show decide (a2z.length <= 18) = false by simp; omega, Bool.and_false, Bool.false_and]
  · simp only [ratOk, show decide (a1z.length <= 18) = false by simp; omega, Bool.and_false, Bool.false_and]
  have ok1 := natOk_spec.1 e2
  have ok0 := (intOk_enc e1).2
  obtain ⟨b', z', ez, can1, _⟩ := ok0
  simp only [List.cons.injEq, D0.ints.injEq, D0.bool.injEq, and_true] at ez
  obtain ⟨_, rfl⟩ := ez
  have r1 := ir1.ext X3; have r2 := ir2.ext X3
  rw [<- digs_val can1] at r1
  rw [<- digs_val ok1.1] at r2
  refine ⟨_, _, _, b3.loadAt 1 rfl (by kernel_rfl) rfl, _, _, _, b3.loadAt 2 rfl (by kernel_rfl) rfl, ?_⟩
  refine Ret.at (spec_NatGcd_c r1 r2 (by omega) (by omega)) ?_
  rintro v w4 ⟨p', n', c', hv, ho, y4⟩
  subst hv
  have hne : a2z.isEmpty = false := by cases a2z with
    | nil => simp at l2; omega
    | cons => rfl
  have val' : ratOk [.bool a0, .ints a1z, .ints a2z] = decide (Nat.gcd (val a1z).toNat (val a2z).toNat = 1) := by
    simp only [ratOk, e1, e2, hne, show decide (a2z.length <= 18) = true by simp; omega, show decide (a1z.length <= 18) = true by simp; omega, Bool.not_false, Bool.and_self, Bool.true_and]
  refine ⟨_, _, _, rfl, fun r5 w5 hn5 => ?_⟩
  have one : IntsR w5 (some ⟨r5, 0, none⟩) 1 1 [1] := ⟨rfl, Nat.le_refl _, by omega, fun _ => ⟨_, 0, rfl, hn5.blk.seg⟩⟩
  refine Ret.at (spec_l02Cmp_c (ho.ext hn5.ext) one) ?_
  rintro v w6 ⟨hv, y6⟩
  subst hv
  refine ⟨_, rfl, ?_, X3.trans (y4.trans (hn5.ext.trans y6))⟩
  rw [val', <- digs_one]
  by_cases e : Nat.gcd (val a1z).toNat (val a2z).toNat = 1
  · have h0 : cmpL (digs (Nat.gcd (val a1z).toNat (val a2z).toNat)) (digs 1) = 0 := cmpL_zero.2 (congrArg digs e)
    rw [decide_eq_true h0, decide_eq_true e]
  · have : ¬ cmpL (digs (Nat.gcd (val a1z).toNat (val a2z).toNat)) (digs 1) = 0 := fun hc => e (digs_inj (cmpL_zero.1 hc))
    rw [decide_eq_false this, decide_eq_false e]
end Go.Proofs.YtfehpaekbbmkcaaGreatDoor
namespace Go.Proofs.YtfehpaekbbmkcaaGreatDoor
open Go Go.Proofs.YtfehpaekbbmkcaaGreatDoor.Sx
def tenL (k : Nat) : List Int := List.replicate (k / 9) 0 ++ [10 ^ (k % 9)]
theorem val_zeros : ∀ s : Nat, val (List.replicate s 0) = 0
  | 0 => rfl
  | s + 1 => by simp [List.replicate_succ, val, val_zeros s]
theorem ten_small {j : Nat} (h : j < 9) : (1 : Int) <= 10 ^ j /\ (10 : Int) ^ j <= 100000000 := by
  have : j = 0 ∨ j = 1 ∨ j = 2 ∨ j = 3 ∨ j = 4 ∨ j = 5 ∨ j = 6 ∨ j = 7 ∨ j = 8 := by omega
  rcases this with h | h | h | h | h | h | h | h | h <;> subst h <;> decide
theorem tenL_canon (k : Nat) : Canon (tenL k) := by
  have h := ten_small (j := k % 9) (by omega)
  refine ⟨Limbs.append.2 ⟨fun x hx => by simp at hx; omega, Limbs.cons.2 ⟨by omega, Limbs.nil⟩⟩, ?_⟩
  simp only [tenL, List.getLast?_append, List.getLast?_singleton, Option.some_or, ne_eq, Option.some.injEq]
  omega
theorem val_tenL (k : Nat) : val (tenL k) = 10 ^ k := by
  unfold tenL
  rw [val_snoc, val_zeros, List.length_replicate, Int.zero_add]
  have : (1000000000 : Int) = 10 ^ 9 := by decide
  rw [this, <- Int.pow_mul, <- Int.pow_add]
  congr 1
  omega
theorem tenL_digs (k : Nat) : tenL k = digs (10 ^ k) := by
  have := digs_val (tenL_canon k)
  rw [val_tenL] at this
  rw [<- this]
  congr 1
theorem impl_natTen_c {w : World} {k : Int} (h0 : 0 <= k) (h1 : k <= 1000) :
    Ret P n_impl_natTen [.int .i64 k] w fun v w' => ∃ p' n' c', v = .slice p' n' c' /\ Own w' w.heap.size T_int 1 p' n' c' ((digs (10 ^ k.toNat)).map (Value.int .i64)) /\ Ext w w' := by
  refine impl_natTen_ret ?_
  unfold impl_natTen
  have ed : Int.tdiv k 9 = k / 9 := Int.tdiv_eq_ediv_of_nonneg h0
  have em : Int.tmod k 9 = k % 9 := Int.tmod_eq_emod_of_nonneg h0
  rw [ed, em]
  refine ⟨by decide, exW ⟨by omega, by omega⟩ ⟨by decide, exW ⟨by omega, by omega⟩ (exW ⟨by omega, by omega⟩ ⟨⟨by omega, by omega, by omega⟩, fun r w1 hn1 => ?_⟩)⟩⟩
  have hre := hn1.r_eq
  refine ⟨by decide, _, rfl, fun top i wr => ∃ j : Nat, i = j /\ (j : Int) <= k % 9 /\ wr = w1 /\ top = 10 ^ j, fun _ i _ => 9 - i.toNat, ⟨0, rfl, by omega, rfl, rfl⟩, ?_⟩
  intro junk wr top i ⟨j, hi, hj, hw, ht⟩
  subst hi; subst hw; subst ht
  have T := ten_small (j := j) (by omega)
  refine ifD (fun hlt => ?_) (fun hge => ?_)
  · refine exW ⟨by omega, by omega⟩ (exW ⟨by omega, by omega⟩ ⟨⟨j + 1, by omega, by omega, rfl, by rw [Int.pow_succ]⟩, ?_⟩)
    show 9 - ((j : Int) + 1).toNat < 9 - (j : Int).toNat
    omega
  · intro r1 w2 hn2
    have hblk : Blk wr r T_int (List.replicate ((k / 9 + 1).toNat) (Value.int .i64 0)) := by
      have := hn1.blk
      rwa [zeroRow_int, Nat.mul_one] at this
    have hown : Own wr w.heap.size T_int 1 (some ⟨r, 0, none⟩) (k / 9).toNat (k / 9 + 1).toNat ((List.replicate (k / 9).toNat (0 : Int)).map (Value.int .i64)) := by
      have hfull : Own wr w.heap.size T_int 1 (some ⟨r, 0, none⟩) (k / 9 + 1).toNat (k / 9 + 1).toNat ((List.replicate (k / 9 + 1).toNat (0 : Int)).map (Value.int .i64)) := by
        rw [List.map_replicate]
        exact Own.of_blk hblk (by omega) (by simp) (by simp only [maxLen]; omega)
      have := hfull.sub (m := (k / 9).toNat) (by omega)
      rwa [List.take_replicate, show min (k / 9).toNat (k / 9 + 1).toNat = (k / 9).toNat by omega] at this
    obtain ⟨p', c', w3, g1, g2, g3⟩ := Own.push hown hn1.ext.le hn2 (by omega)
    refine ⟨_, _, _, _, g1, _, _, _, rfl, ?_, g3 w hn1.ext (Nat.le_refl _)⟩
    rw [<- tenL_digs]
    have ej : j = k.toNat % 9 := by omega
    have ek : (k / 9).toNat = k.toNat / 9 := by omega
    rw [ej, ek] at g2
    rw [ek]
    exact g2
theorem spec_NatTen_c {w : World} {k : Int} (h0 : 0 <= k) (h1 : k <= 449) :
    Ret P n_spec_NatTen [.int .i64 k] w fun v w' => ∃ p' n' c', v = .slice p' n' c' /\ Own w' w.heap.size T_int 1 p' n' c' ((digs (10 ^ k.toNat)).map (Value.int .i64)) /\ Ext w w' := by
  refine spec_NatTen_ret ?_
  unfold spec_NatTen
  have ed : Int.tdiv k 9 = k / 9 := Int.tdiv_eq_ediv_of_nonneg h0
  have em : Int.tmod k 9 = k % 9 := Int.tmod_eq_emod_of_nonneg h0
  rw [ed, em]
  refine Ret.at (spec_l01In_c k 0 449 w) ?_
  rintro v w0 ⟨hv, hw⟩
  subst hv; subst hw
  refine ⟨_, rfl, ifN (fun h => absurd (of_decide_eq_false h) (by omega)) (fun _ => ⟨by decide, exW ⟨by omega, by omega⟩ ⟨⟨by omega, by omega, by omega⟩, fun r w1 hn1 => ?_⟩⟩)⟩
  have hre := hn1.r_eq
  refine ⟨fun top i wr => ∃ j : Nat, i = j /\ (j : Int) <= k % 9 /\ wr = w1 /\ top = 10 ^ j, fun _ i _ => 9 - i.toNat, ⟨0, rfl, by omega, rfl, rfl⟩, ?_⟩
  intro junk wr top i ⟨j, hi, hj, hw, ht⟩
  subst hi; subst hw; subst ht
  have T := ten_small (j := j) (by omega)
  refine ⟨by decide, _, rfl, ifD (fun hlt => ?_) (fun hge => ?_)⟩
  · refine exW ⟨by omega, by omega⟩ (exW ⟨by omega, by omega⟩ ⟨⟨j + 1, by omega, by omega, rfl, by rw [Int.pow_succ]⟩, ?_⟩)
    show 9 - ((j : Int) + 1).toNat < 9 - (j : Int).toNat
    omega
  · intro r1 w2 hn2
    have hblk : Blk wr r T_int (List.replicate ((k / 9).toNat) (Value.int .i64 0)) := by
      have := hn1.blk
      rwa [zeroRow_int, Nat.mul_one] at this
    have hown : Own wr w0.heap.size T_int 1 (some ⟨r, 0, none⟩) (k / 9).toNat (k / 9).toNat ((List.replicate (k / 9).toNat (0 : Int)).map (Value.int .i64)) := by
      rw [List.map_replicate]
      exact Own.of_blk hblk (by omega) (by simp) (by simp only [maxLen]; omega)
    obtain ⟨p', c', w3, g1, g2, g3⟩ := Own.push hown hn1.ext.le hn2 (by omega)
    refine ⟨_, _, _, _, g1, _, _, _, rfl, ?_, g3 w0 hn1.ext (Nat.le_refl _)⟩
    rw [<- tenL_digs]
    have ej : j = k.toNat % 9 := by omega
    have ek : (k / 9).toNat = k.toNat / 9 := by omega
    rw [ej, ek] at g2
    rw [ek]
    exact g2
end Go.Proofs.YtfehpaekbbmkcaaGreatDoor
namespace Go.Proofs.YtfehpaekbbmkcaaGreatDoor
open Go Go.Proofs.YtfehpaekbbmkcaaGreatDoor.Sx
def decOk : List D0 -> Bool
  | [.bool b, .ints z, .int s] => intOk [.bool b, .ints z] && decide (z.length <= 6) && decide (0 <= s /\ s <= 30)
  | _ => false
theorem impl_isScale_c (s : Int) (w : World) : Ret P n_impl_isScale [.int .i64 s] w fun v w' => v = .bool (decide (0 <= s /\ s <= 30)) /\ w' = w := by
  refine impl_isScale_ret ?_
  unfold impl_isScale
  refine ifD (fun h => ⟨?_, rfl⟩) (fun h => ⟨?_, rfl⟩) <;> simp [h]
theorem spec_DecOk_c {w : World} {xs : List Value} {dx : List D0} (h : Reps w xs dx) (hc : dx.map D0.code = [.bool, .ints, .int]) :
    Ret P n_spec_DecOk [.agg ⟨xs⟩] w fun v w' => v = .bool (decOk dx) /\ Ext w w' := by
  obtain ⟨a0, a1p, a1n, a1c, a1z, a2, rfl, rfl, ha⟩ := open_Dec h hc
  refine spec_DecOk_ret ?_
  unfold spec_DecOk
  intro r w1 hn1
  have x := hn1.ext
  have hl := ha.1
  refine ⟨_, _, _, _, hn1.blk.loadAAt 0 [.bool a0, .slice a1p a1n a1c] rfl (by kernel_rfl) rfl, ?_⟩
  refine Ret.at (spec_IntOk_c (dx := [.bool a0, .ints a1z]) ⟨rfl, ⟨_, _, _, rfl, ha.ext x⟩, trivial⟩ rfl) ?_
  rintro v w2 ⟨hv, y⟩
  subst hv
  have x := x.trans y; have b := hn1.blk.ext y
  refine ⟨_, rfl, fun e => ⟨_, _, _, b.loadAt 1 rfl (by kernel_rfl) rfl, ifD (fun hle => ?_) (fun hgt => ⟨?_, x⟩)⟩, fun e => ifF ⟨?_, x⟩⟩
  · refine ⟨_, b.loadAt 2 rfl (by kernel_rfl) rfl, ?_⟩
    refine Ret.at (spec_l01In_c a2 0 30 w2) ?_
    rintro v w3 ⟨hv, hw⟩
    subst hv; subst hw
    exact ⟨_, rfl, by simp only [decOk, e, show decide (a1z.length <= 6) = true by simp; omega, Bool.true_and], x⟩
  · simp only [decOk, show decide (a1z.length <= 6) = false by simp; omega, Bool.and_false, Bool.false_and]
  · simp only [decOk, e, Bool.false_and]
theorem impl_DecOk_c {w : World} {xs : List Value} {dx : List D0} (h : Reps w xs dx) (hc : dx.map D0.code = [.bool, .ints, .int]) :
    Ret P n_impl_DecOk [.agg ⟨xs⟩] w fun v w' => v = .bool (decOk dx) /\ Ext w w' := by
  obtain ⟨a0, a1p, a1n, a1c, a1z, a2, rfl, rfl, ha⟩ := open_Dec h hc
  refine impl_DecOk_ret ?_
  unfold impl_DecOk
  intro r w1 hn1
  have x := hn1.ext
  have hl := ha.1
  refine ⟨_, _, _, _, hn1.blk.loadAAt 0 [.bool a0, .slice a1p a1n a1c] rfl (by kernel_rfl) rfl, ?_⟩
  refine Ret.at (impl_IntOk_c (dx := [.bool a0, .ints a1z]) ⟨rfl, ⟨_, _, _, rfl, ha.ext x⟩, trivial⟩ rfl) ?_
  rintro v w2 ⟨hv, y⟩
  subst hv
  have x := x.trans y; have b := hn1.blk.ext y
  refine ⟨_, rfl, fun e => ⟨_, _, _, b.loadAt 1 rfl (by kernel_rfl) rfl, ifD (fun hle => ?_) (fun hgt => ⟨?_, x⟩)⟩, fun e => ifF ⟨?_, x⟩⟩
  · refine ⟨_, b.loadAt 2 rfl (by kernel_rfl) rfl, ?_⟩
    refine Ret.at (impl_isScale_c a2 w2) ?_
    rintro v w3 ⟨hv, hw⟩
    subst hv; subst hw
    exact ⟨_, rfl, by simp only [decOk, e, show decide (a1z.length <= 6) = true by simp; omega, Bool.true_and], x⟩
  · simp only [decOk, show decide (a1z.length <= 6) = false by simp; omega, Bool.and_false, Bool.false_and]
  · simp only [decOk, e, Bool.false_and]
end Go.Proofs.YtfehpaekbbmkcaaGreatDoor
namespace Go.Proofs.YtfehpaekbbmkcaaGreatDoor
open Go Go.Proofs.YtfehpaekbbmkcaaGreatDoor.Sx
theorem impl_scaled_1_c {w : World} {xs : List Value} {b : Bool} {z : List Int} {s sc : Int} {cb : Nat} {e : TypeId} (h : Reps w xs [.bool b, .ints z, .int s]) (hz : Limbs z) (hl : z.length <= 1000) (hs : 0 <= s) (hss : s <= sc) (hsc : sc <= 30) (hcap : Blk w cb e [.int .i64 sc]) :
    Ret P n_impl_scaled_1 [.agg ⟨xs⟩, .pointer (some ⟨cb, 0, none⟩)] w fun v w' => ∃ vs' f, v = .agg ⟨vs'⟩ /\ Owns w' w.heap.size vs' (mkS b (digs (val z * 10 ^ (sc - s).toNat).toNat)) f /\ f.Nodup /\ Ext w w' := by
  obtain ⟨a0, a1p, a1n, a1c, a1z, a2, rfl, hd, ha⟩ := open_Dec h rfl
  cases hd
  have hlz := ha.1
  refine impl_scaled_1_ret ?_
  unfold impl_scaled_1
  intro r w1 hn1 r1 w2 hn2
  have X := hn1.ext.trans hn2.ext
  have D := Ext.drew w2
  have XD := X.trans D
  have k0 := hn1.blk.ext hn2.ext
  have e2 := hn2.r_eq; have s1 := hn1.size; have s2 := hn2.size
  have lD := D.le
  refine ⟨_, fun W hW => (k0.ext (D.trans hW)).loadAt 0 rfl (by kernel_rfl) rfl, _, _, _, fun W hW => (k0.ext (D.trans hW)).loadAt 1 rfl (by kernel_rfl) rfl, _, fun W hW => (hcap.ext (XD.trans hW)).load0 (by kernel_rfl) rfl, _, fun W hW => (k0.ext (D.trans hW)).loadAt 2 rfl (by kernel_rfl) rfl, exW ⟨by omega, by omega⟩ ?_⟩
  refine Ret.at (impl_natTen_c (by omega) (by omega)) ?_
  rintro v w3 ⟨p, n, c, hv, ho, y3⟩
  subst hv
  have hlen : n <= 4 := by
    have := ho.ints.1
    rw [<- tenL_digs] at this
    simp [tenL] at this
    omega
  refine ⟨_, _, _, rfl, y3, ?_⟩
  refine Ret.at (impl_natMul_c (ha.ext (XD.trans y3)) ho.ints hz (digs_limbs _) (by omega) (by omega)) ?_
  rintro v w4 ⟨p2, n2, c2, hv, ho2, y4⟩
  subst hv
  rw [val_digs] at ho2
  refine ⟨_, _, _, rfl, y4, ?_⟩
  refine Ret.at (impl_signed_c ho2.ints.1) ?_
  rintro v w5 ⟨hv, y5⟩
  subst hv
  have l3 := y3.le
  obtain ⟨B, hB⟩ : ∃ B, B = (b && !(digs (val z * ((10 ^ (sc - s).toNat : Nat) : Int)).toNat).isEmpty) := ⟨_, rfl⟩
  rw [<- hB]
  obtain ⟨w6, st, hb6, ch, sz⟩ := ((((hn2.blk.ext D).ext y3).ext y4).ext y5).storeA0 (P := P) (t := T_impl_Signed) (xs := [.bool B, .slice p2 n2 c2]) (by kernel_rfl) rfl (by simp [Value.oneCell'])
  refine ⟨_, _, _, _, rfl, w6, st, _, _, _, _, hb6.loadA0 (by kernel_rfl), _, _, rfl, ?_, nodup_opt p2, (((XD.trans y3).trans y4).trans y5).chg ch (by simp; omega)⟩
  have e10 : ((10 ^ (sc - s).toNat : Nat) : Int) = (10 : Int) ^ (sc - s).toNat := by simp
  rw [<- e10]
  unfold mkS
  rw [<- hB]
  exact ((Owns.int2 (ho2.ext y5)).chg1 ch (by omega)).mono (by omega)
end Go.Proofs.YtfehpaekbbmkcaaGreatDoor
namespace Go.Proofs.YtfehpaekbbmkcaaGreatDoor
open Go Go.Proofs.YtfehpaekbbmkcaaGreatDoor.Sx
def dcmp : List D0 -> List D0 -> Int
  | [.bool a, .ints x, .int s], [.bool b, .ints y, .int t] => if decOk [.bool a, .ints x, .int s] && decOk [.bool b, .ints y, .int t] then
      sgn (ival [.bool a, .ints x] * 10 ^ (max s t - s).toNat - ival [.bool b, .ints y] * 10 ^ (max s t - t).toNat) else 0
  | _, _ => 0
theorem mkS_mul {b : Bool} {z : List Int} {m : Int} (hok : intOk [.bool b, .ints z] = true) (hm : 0 < m) : mkS b (digs (val z * m).toNat) = enc (ival [.bool b, .ints z] * m) := by
  obtain ⟨_, _, _, he, hc, _⟩ := intOk_enc hok
  simp only [List.cons.injEq, D0.bool.injEq, D0.ints.injEq, and_true] at he
  obtain ⟨rfl, rfl⟩ := he
  have hv := val_nonneg hc.1
  have hp : 0 <= val z * m := Int.mul_nonneg hv (Int.le_of_lt hm)
  obtain ⟨N, hN⟩ : ∃ N : Nat, val z * m = N := ⟨(val z * m).toNat, by omega⟩
  cases b with
  | false => simp only [ival, Bool.false_eq_true, if_false, hN, Int.toNat_natCast]; exact mkS_pos N
  | true => simp only [ival, if_true, Int.neg_mul, hN, Int.toNat_natCast]; exact mkS_neg N
theorem scaled_len {b : Bool} {z : List Int} {e : Nat} (hok : intOk [.bool b, .ints z] = true) (hl : z.length <= 6) (he : e <= 30) : (digs (ival [.bool b, .ints z] * 10 ^ e).natAbs).length <= 10 := by
  obtain ⟨_, _, _, h1, hc, _⟩ := intOk_enc hok
  simp only [List.cons.injEq, D0.bool.injEq, D0.ints.injEq, and_true] at h1
  obtain ⟨rfl, rfl⟩ := h1
  have hv := val_nonneg hc.1
  have hlt := val_lt hc.1
  have h6 : (1000000000 : Nat) ^ z.length <= 1000000000 ^ 6 := Nat.pow_le_pow_right (by decide) hl
  have h6' := Int.ofNat_le.2 h6
  rw [Int.natCast_pow, Int.natCast_pow] at h6'
  have hn : (val z).toNat < 1000000000 ^ 6 := by
    have : val z < (1000000000 : Int) ^ 6 := Int.lt_of_lt_of_le hlt h6'
    omega
  have ha : (ival [.bool b, .ints z]).natAbs = (val z).toNat := by cases b <;> simp only [ival, if_true, Bool.false_eq_true, if_false] <;> omega
  have h10 : ((10 : Int) ^ e).natAbs = 10 ^ e := by simp [Int.natAbs_pow]
  have h30 : (10 : Nat) ^ e <= 10 ^ 30 := Nat.pow_le_pow_right (by decide) he
  apply digs_len
  rw [Int.natAbs_mul, ha, h10]
  exact Nat.lt_of_lt_of_le (Nat.mul_lt_mul_of_lt_of_le hn h30 (by decide)) (by decide)
theorem icmp_enc {x y : Int} (hx : intOk (enc x) = true) (hy : intOk (enc y) = true) : icmp (enc x) (enc y) = sgn (x - y) := by
  have cv := cmpL_val (digs_canon x.natAbs) (digs_canon y.natAbs)
  have cv2 := cmpL_val (digs_canon y.natAbs) (digs_canon x.natAbs)
  rw [val_digs, val_digs] at cv cv2
  unfold enc at hx hy
  unfold enc
  simp only [icmp, hx, hy, Bool.not_true, Bool.or_self, Bool.false_eq_true, if_false, sgn]
  by_cases h1 : x < 0 <;> by_cases h2 : y < 0 <;> simp only [h1, h2, decide_true, decide_false, Bool.not_true, Bool.not_false, Bool.and_true, Bool.true_and, Bool.and_false, Bool.false_and, Bool.false_eq_true, if_true, if_false]
  · rcases cv2 with ⟨h, h'⟩ | ⟨h, h'⟩ | ⟨h, h'⟩ <;> rw [h] <;> (repeat' split) <;> omega
  · (repeat' split) <;> omega
  · (repeat' split) <;> omega
  · rcases cv with ⟨h, h'⟩ | ⟨h, h'⟩ | ⟨h, h'⟩ <;> rw [h] <;> (repeat' split) <;> omega
theorem decOk_spec {b : Bool} {z : List Int} {s : Int} (h : decOk [.bool b, .ints z, .int s] = true) : intOk [.bool b, .ints z] = true /\ z.length <= 6 /\ 0 <= s /\ s <= 30 := by
  simp only [decOk, Bool.and_eq_true, decide_eq_true_eq] at h
  exact ⟨h.1.1, h.1.2, h.2.1, h.2.2⟩
theorem impl_DecCmp_c {w : World} {xs ys : List Value} {dx dy : List D0} (h : Reps w xs dx) (k : Reps w ys dy) (hc : dx.map D0.code = [.bool, .ints, .int]) (kc : dy.map D0.code = [.bool, .ints, .int]) :
    Ret P n_impl_DecCmp [.agg ⟨xs⟩, .agg ⟨ys⟩] w fun v w' => v = .int .i64 (dcmp dx dy) /\ Ext w w' := by
  have hr := h; have kr := k
  obtain ⟨a0, a1p, a1n, a1c, a1z, a2, rfl, rfl, ha⟩ := open_Dec h hc
  obtain ⟨b0, b1p, b1n, b1c, b1z, b2, rfl, rfl, hb⟩ := open_Dec k kc
  refine impl_DecCmp_ret ?_
  unfold impl_DecCmp
  intro r w1 hn1 r1 w2 hn2
  have X := hn1.ext.trans hn2.ext
  have k0 := hn1.blk.ext hn2.ext; have k1 := hn2.blk
  have bad : ∀ W, Ext w2 W -> (decOk [.bool a0, .ints a1z, .int a2] && decOk [.bool b0, .ints b1z, .int b2]) = false -> Value.int .i64 0 = .int .i64 (dcmp [.bool a0, .ints a1z, .int a2] [.bool b0, .ints b1z, .int b2]) /\ Ext w W := fun W hW hno => ⟨by simp only [dcmp, hno]; rfl, X.trans hW⟩
  refine ⟨_, _, _, _, _, k0.loadA0 (by kernel_rfl), ?_⟩
  refine Ret.at (impl_DecOk_c (hr.ext X) rfl) ?_
  rintro v w3 ⟨hv, y3⟩
  subst hv
  refine ⟨_, rfl, ifN (fun hno => ifT (bad w3 y3 (by simp [hno]))) (fun hok1 => ?_)⟩
  refine ⟨_, _, _, _, _, (k1.ext y3).loadA0 (by kernel_rfl), ?_⟩
  refine Ret.at (impl_DecOk_c (kr.ext (X.trans y3)) rfl) ?_
  rintro v w4 ⟨hv, y4⟩
  subst hv
  refine ⟨_, rfl, ifN (fun hno => bad w4 (y3.trans y4) (by simp [hno])) (fun hok2 => ?_)⟩
  obtain ⟨o1, l1, s1, t1⟩ := decOk_spec hok1
  obtain ⟨o2, l2, s2, t2⟩ := decOk_spec hok2
  have X4 := (X.trans y3).trans y4
  have k0 := (k0.ext y3).ext y4; have k1 := (k1.ext y3).ext y4
  unfold impl_DecCmp_j0
  have emax : (if b2 > a2 then b2 else a2) = max a2 b2 := by split <;> omega
  refine ⟨_, k0.loadAt 2 rfl (by kernel_rfl) rfl, _, k1.loadAt 2 rfl (by kernel_rfl) rfl, _, rfl, ?_⟩
  rw [emax]
  refine Ret.at (R := fun v w' => ∃ r, v = .func (.func n_impl_scaled_1) ⟨[]⟩ ⟨[.pointer (some ⟨r, 0, none⟩)]⟩ /\ Blk w' r T_int [.int .i64 (max a2 b2)] /\ Ext w4 w') ?_ ?_
  · refine impl_scaled_ret ?_
    unfold impl_scaled
    intro r5 w5 hn5
    exact ⟨r5, rfl, hn5.blk, hn5.ext⟩
  rintro v w5 ⟨r5, hv, hb5, y5⟩
  subst hv
  have D := Ext.drew w5
  have X5 := (X4.trans y5).trans D
  have q0 := (k0.ext y5).ext D; have q1 := (k1.ext y5).ext D
  have la := (intOk_enc o1).2
  obtain ⟨_, _, h1, c1, _⟩ := la
  simp only [List.cons.injEq, D0.bool.injEq, D0.ints.injEq, and_true] at h1
  obtain ⟨rfl, rfl⟩ := h1
  obtain ⟨_, _, h2, c2, _⟩ := (intOk_enc o2).2
  simp only [List.cons.injEq, D0.bool.injEq, D0.ints.injEq, and_true] at h2
  obtain ⟨rfl, rfl⟩ := h2
  have p1 : (0 : Int) < 10 ^ (max a2 b2 - a2).toNat := Int.pow_pos (by decide)
  have p2 : (0 : Int) < 10 ^ (max a2 b2 - b2).toNat := Int.pow_pos (by decide)
  refine ⟨_, rfl, _, _, _, _, _, fun W hW => (q0.ext hW).loadA0 (by kernel_rfl), _, _, _, rfl, by kernel_rfl, ?_⟩
  refine Calls.mono (impl_scaled_1_c (hr.ext X5) c1.1 (by omega) (by omega) (by omega) (by omega) (hb5.ext D)) ?_
  rintro e w6 ⟨v, he, vs1, f1, hv, ho1, _, y6⟩
  subst hv
  rw [mkS_mul o1 p1] at ho1
  obtain ⟨g0, gp, gn, gc, gz, rfl, hg, hgi⟩ := open_Signed ho1.reps (enc_code _)
  refine ⟨_, _, _, _, he, y6, _, _, _, _, _, fun W hW => (q1.ext hW).loadA0 (by kernel_rfl), _, _, _, rfl, by kernel_rfl, ?_⟩
  refine Calls.mono (impl_scaled_1_c (kr.ext (X5.trans y6)) c2.1 (by omega) (by omega) (by omega) (by omega) ((hb5.ext D).ext y6)) ?_
  rintro e w7 ⟨v, he2, vs2, f2, hv, ho2, _, y7⟩
  subst hv
  rw [mkS_mul o2 p2] at ho2
  obtain ⟨g20, g2p, g2n, g2c, g2z, rfl, hg2, hgi2⟩ := open_Signed ho2.reps (enc_code _)
  refine ⟨_, _, _, _, he2, ?_⟩
  refine Ret.at (impl_intCmp_c (ho1.reps.ext y7) ho2.reps (Nat.le_trans (scaled_len o1 l1 (by omega)) (by decide)) (Nat.le_trans (scaled_len o2 l2 (by omega)) (by decide))) ?_
  rintro v w8 ⟨hv, y8⟩
  subst hv
  refine ⟨_, rfl, ?_, ((X5.trans y6).trans y7).trans y8⟩
  simp only [dcmp, hok1, hok2, Bool.and_self, if_true]
end Go.Proofs.YtfehpaekbbmkcaaGreatDoor
namespace Go.Proofs.YtfehpaekbbmkcaaGreatDoor
open Go Go.Proofs.YtfehpaekbbmkcaaGreatDoor.Sx
theorem Sx.append0 {w : World} {r : Nat} {q : Option Addr} {m d : Nat} {ys : List Int} (hb : Blk w r T_int []) (k : IntsR w q m d ys) (hm : m <= 100000000) :
    ∃ p' c' w', Appends P [T_s_int, T_s_int] [.slice (some ⟨r, 0, none⟩) 0 0, .slice q m d] (.slice p' m c') w w' /\ Own w' r T_int 1 p' m c' (ys.map (Value.int .i64)) /\ Ext w w' := by
  have h : Own w r T_int 1 (some ⟨r, 0, none⟩) 0 0 (([] : List Int).map (Value.int .i64)) := Own.of_blk0 hb (Nat.le_refl _) rfl (by decide)
  obtain ⟨p', c', w', h1, h2, h3⟩ := Own.appendI h (Nat.le_of_lt hb.lt) k (by omega)
  rw [Nat.zero_add] at h1 h2
  refine ⟨p', c', w', h1, by simpa using h2, ?_⟩
  obtain ⟨hu, hi, hz, hs⟩ := sliceT_int
  cases hinf : P.info? T_int with
  | none => rw [hinf] at hi; cases hi
  | some i =>
    rw [hinf] at hi
    simp only [Option.map_some, Option.some.injEq, Prod.mk.injEq] at hi
    cases q with
    | none =>
      have hm0 : m = 0 := by
        rcases Nat.eq_zero_or_pos m with h0 | h0
        · exact h0
        · obtain ⟨b, off, hp, _⟩ := k.2.2.2 h0; cases hp
      subst hm0
      have := run_append_none (P := P) w r T_s_int 0 T_int i 1 hu hinf _ 0 d _ h
      have h1 : (Builtin.append_ #[T_s_int, T_s_int] 0 #[.slice (some ⟨r, 0, none⟩) 0 0, .slice none 0 d]).run P w = .ok (.slice p' 0 c') w' := h1
      rw [this] at h1
      cases h1
      exact Ext.refl _
    | some a =>
      have hcells : ∀ j u, (ys.map (Value.int .i64))[j]? = some u -> w.cell? (a.add j) = some u := by
        intro j u hj
        have hl : j < m := by
          have := (List.getElem?_eq_some_iff.1 hj).1
          rw [List.length_map, k.1] at this; exact this
        obtain ⟨b, off, hp, hseg⟩ := k.2.2.2 (by omega)
        cases hp
        rw [addr_add]
        exact hseg j u hj
      have h1 : (Builtin.append_ #[T_s_int, T_s_int] 0 #[.slice (some ⟨r, 0, none⟩) 0 0, .slice (some a) m d]).run P w = .ok (.slice p' m c') w' := h1
      rcases Nat.eq_zero_or_pos m with h0 | h0
      · subst h0
        have hy : ys = [] := List.eq_nil_of_length_eq_zero k.1
        subst hy
        have := run_append_room (P := P) w T_s_int 0 T_int i hu hinf r 0 0 #[] hb a 0 d [] (by simp) (by simp) (by simp) (by omega) (by simp)
        rw [this] at h1
        cases h1
        have e : w.setRow r ((#[] : Array Value).toList.take (0 * i.size) ++ ([] : List Value) ++ (#[] : Array Value).toList.drop (0 * i.size + ([] : List Value).length)).toArray = w := by
          have := setRow_self w r #[] T_int (0, 0) hb
          simpa using this
        rw [e]
        exact Ext.refl _
      · have hnext : Builtin.nextslicecap (0 + m) 0 * i.bytes <= 281474976710656 := by
          rw [Nat.zero_add, nextslicecap_zero h0, hi.2.2]; omega
        have := run_append_grow (P := P) w T_s_int 0 T_int i (.int .i64 0) hu hinf hi.1 ⟨r, 0, none⟩ 0 0 [] (by simp) (by simp) a m d (ys.map (Value.int .i64)) (by simp [k.1, hi.2.1]) hcells (by omega) (by omega) hnext
        rw [this] at h1
        injection h1 with _ hw
        rw [<- hw]
        exact (Ext.drew w).trans ((Go.RowKit.Below.refl _ _).alloc (Nat.le_refl _) _)
theorem Sx.Fl.got {os : List Obj} {ss : List (Option Nat)} {w : World} {ss' : List (Option Nat)} {w' : World} (h : Fl os ss w ss' w') : ∀ {k r : Nat} {o : Obj}, ss[k]? = some none -> os[k]? = some o -> ss'[k]? = some (some r) -> w.heap.size <= r /\ w'.heap[r]? = some o := by
  induction h with
  | refl => intro k r o h0 _ h1; rw [h0] at h1; cases h1
  | step h1 h2 h3 ih =>
    rename_i ss w k' o' ss' w'
    intro k r o h0 ho hr
    by_cases hk : k' = k
    · subst hk
      rw [h2] at ho
      cases ho
      have hset : (ss.set k' (some w.heap.size))[k']? = some (some w.heap.size) := by
        rw [List.getElem?_set_self]
        exact (List.getElem?_eq_some_iff.1 h1).1
      have := h3.keeps hset
      rw [this] at hr
      cases hr
      exact ⟨Nat.le_refl _, (h3.ext.block _ (by simp)).trans (heap_alloc_new w _)⟩
    · obtain ⟨a, b⟩ := ih (k := k) (r := r) (o := o) (by rw [List.getElem?_set_ne hk]; exact h0) ho hr
      refine ⟨?_, b⟩
      have : w.heap.size <= (w.alloc o').heap.size := by simp
      omega
theorem impl_intCopy_c {w : World} {xs : List Value} {dx : List D0} (h : Reps w xs dx) (hc : dx.map D0.code = [.bool, .ints]) (hb : bulks dx <= 100000000) :
    Ret P n_impl_intCopy [.agg ⟨xs⟩] w fun v w' => ∃ vs' f, v = .agg ⟨vs'⟩ /\ Owns w' w.heap.size vs' dx f /\ f.Nodup /\ Ext w w' := by
  obtain ⟨a0, a1p, a1n, a1c, a1z, rfl, rfl, ha⟩ := open_Signed h hc
  have l1 := ha.1
  simp only [bulks, D0.bulk, List.map_cons, List.map_nil, List.sum_cons, List.sum_nil] at hb
  refine impl_intCopy_ret ?_
  unfold impl_intCopy
  intro r w1 hn1 r1 w2 hn2
  have D := Ext.drew w2
  have X := (hn1.ext.trans hn2.ext).trans D
  have k0 := hn1.blk.ext hn2.ext; have k1 := hn2.blk.ext D
  have e2 := hn2.r_eq; have s1 := hn1.size; have s2 := hn2.size; have lD := D.le
  refine ⟨_, fun W hW => (k0.ext (D.trans hW)).loadAt 0 rfl (by kernel_rfl) rfl, _, _, _, fun W hW => (k0.ext (D.trans hW)).loadAt 1 rfl (by kernel_rfl) rfl, ?_⟩
  refine Ret.at (impl_natCopy_c (ha.ext X) (by omega)) ?_
  rintro v w3 ⟨p, c, hv, ho, y3⟩
  subst hv
  obtain ⟨w4, st, hb4, ch, sz⟩ := (k1.ext y3).storeA0 (P := P) (t := T_impl_Signed) (xs := [.bool a0, .slice p a1n c]) (by kernel_rfl) rfl (by simp [Value.oneCell'])
  exact ⟨_, _, _, rfl, y3, w4, st, _, _, _, _, hb4.loadA0 (by kernel_rfl), _, _, rfl, ((Owns.int2 ho).chg1 ch (by omega)).mono (by omega), nodup_opt p, (X.trans y3).chg ch (by simp; omega)⟩
end Go.Proofs.YtfehpaekbbmkcaaGreatDoor
namespace Go.Proofs.YtfehpaekbbmkcaaGreatDoor
open Go Go.Proofs.YtfehpaekbbmkcaaGreatDoor.Sx
def ratNum : List D0 -> Int
  | [.bool s, .ints x, .ints _] => ival [.bool s, .ints x]
  | _ => 0
def ratDen : List D0 -> Nat
  | [.bool _, .ints _, .ints y] => (val y).toNat
  | _ => 0
def rmk (n : Int) (d : Nat) : List D0 := [.bool (decide (n < 0)), .ints (digs n.natAbs), .ints (digs d)]
theorem rmk_enc (n : Int) (d : Nat) : rmk n d = enc n ++ [.ints (digs d)] := rfl
theorem rmk_code (n : Int) (d : Nat) : (rmk n d).map D0.code = [.bool, .ints, .ints] := rfl
theorem ratNum_rmk (n : Int) (d : Nat) : ratNum (rmk n d) = n := ival_enc n
theorem ratDen_rmk (n : Int) (d : Nat) : ratDen (rmk n d) = d := by simp [ratDen, rmk, val_digs]
theorem ival_natAbs {s : Bool} {x : List Int} (h : Limbs x) : (ival [.bool s, .ints x]).natAbs = (val x).toNat := by
  have := val_nonneg h
  unfold ival
  cases s <;> simp <;> omega
theorem ratOk_enc {dx : List D0} (h : ratOk dx = true) : dx = rmk (ratNum dx) (ratDen dx) /\ 0 < ratDen dx /\ Nat.gcd (ratNum dx).natAbs (ratDen dx) = 1 /\ (digs (ratNum dx).natAbs).length <= 18 /\ (digs (ratDen dx)).length <= 18 := by
  match dx, h with
  | [.bool s, .ints x, .ints y], h =>
    simp only [ratOk, Bool.and_eq_true, decide_eq_true_eq, Bool.not_eq_true'] at h
    obtain ⟨⟨⟨⟨⟨h1, h2⟩, h3⟩, h4⟩, h5⟩, h6⟩ := h
    have e1 := (intOk_enc h1).1
    obtain ⟨b', z', ez, can1, _⟩ := (intOk_enc h1).2
    simp only [List.cons.injEq, D0.ints.injEq, D0.bool.injEq, and_true] at ez
    obtain ⟨_, rfl⟩ := ez
    have can2 := (natOk_spec.1 h2).1
    have na := ival_natAbs (s := s) can1.1
    have ey := digs_val can2
    have hp := canon_pos can2 (by intro e; subst e; simp at h3)
    have ex := digs_val can1
    refine ⟨?_, ?_, ?_, ?_, ?_⟩
    · have e1' : [D0.bool s, .ints x] = enc (ratNum [.bool s, .ints x, .ints y]) := e1
      have ey' : digs (ratDen [.bool s, .ints x, .ints y]) = y := ey
      rw [rmk_enc, <- e1', ey']; rfl
    · simp only [ratDen]; omega
    · simp only [ratNum, ratDen, na]; exact h6
    · simp only [ratNum, na, ex]; exact h5
    · simp only [ratDen, ey]; exact h4
theorem ratOk_rmk {n : Int} {d : Nat} (hd : 0 < d) (hg : Nat.gcd n.natAbs d = 1) (h1 : (digs n.natAbs).length <= 18) (h2 : (digs d).length <= 18) : ratOk (rmk n d) = true := by
  have i1 : intOk [.bool (decide (n < 0)), .ints (digs n.natAbs)] = true := by
    have := icap_ok n
    rwa [icap_fit (by omega)] at this
  have i2 : natOk (digs d) = true := natOk_spec.2 ⟨digs_canon d, by omega⟩
  have i3 : (digs d).isEmpty = false := by rw [isEmpty_digs]; simp; omega
  simp only [ratOk, rmk, i1, i2, i3, decide_eq_true h1, decide_eq_true h2, val_digs, Int.toNat_natCast, Bool.not_false, Bool.and_self, Bool.true_and]
  exact decide_eq_true hg
theorem rat_parts {w : World} {vs : List Value} {dx : List D0} (h : Reps w vs dx) (hc : dx.map D0.code = [.bool, .ints, .ints]) (hok : ratOk dx = true) :
    ∃ p1 n1 c1 p2 n2 c2, vs = [.bool (decide (ratNum dx < 0)), .slice p1 n1 c1, .slice p2 n2 c2] /\ IntsR w p1 n1 c1 (digs (ratNum dx).natAbs) /\ IntsR w p2 n2 c2 (digs (ratDen dx)) /\ n1 <= 18 /\ n2 <= 18 /\ Reps w [.bool (decide (ratNum dx < 0)), .slice p1 n1 c1] (enc (ratNum dx)) := by
  obtain ⟨e, h1, h2, h3, h4⟩ := ratOk_enc hok
  obtain ⟨a0, a1p, a1n, a1c, a1z, a2p, a2n, a2c, a2z, rfl, hd, ir1, ir2⟩ := open_Rat h hc
  rw [hd] at e
  simp only [rmk, List.cons.injEq, D0.ints.injEq, D0.bool.injEq, and_true] at e
  rw [<- hd] at e
  obtain ⟨e0, e1, e2⟩ := e
  rw [e1] at ir1
  rw [e2] at ir2
  have l1 := ir1.1; have l2 := ir2.1
  exact ⟨_, _, _, _, _, _, by rw [e0], ir1, ir2, by omega, by omega, rfl, ⟨_, _, _, rfl, ir1⟩, trivial⟩
theorem prod_make {w : World} {n : Int} {d : Nat} {p : Option Addr} {m c : Nat} (h : IntsR w p m c (digs ((n.natAbs : Int) * d).toNat)) (hd : 0 < d) (hl : m <= 50) :
    Ret P n_spec_l04Make [.bool (decide (n < 0)), .slice p m c] w fun v w' => ∃ b p n' c, v = .agg ⟨[.bool b, .slice p n' c]⟩ /\ Reps w' [.bool b, .slice p n' c] (enc (n * d)) /\ intOk (enc (n * d)) = true /\ Ext w w' := by
  have hlen := h.1
  refine (spec_l04Make_c h (digs_limbs _)).mono ?_
  rintro v w' ⟨b, p', n', c', hv, hb, ho, y⟩
  have ez : val (digs ((n.natAbs : Int) * d).toNat) = (n.natAbs : Int) * d := val_digsI (Int.mul_nonneg (by omega) (by omega))
  rw [ez] at hb ho
  have ecap : capL (digs ((n.natAbs : Int) * d).toNat) = digs ((n.natAbs : Int) * d).toNat := by unfold capL; rw [if_pos (by omega)]
  rw [ecap] at hb ho
  have ea : (n * d).natAbs = ((n.natAbs : Int) * d).toNat := by
    rw [Int.natAbs_mul, Int.natAbs_natCast, <- Int.natCast_mul, Int.toNat_natCast]
  have eb : (decide (n < 0) && !(digs ((n.natAbs : Int) * d).toNat).isEmpty) = decide (n * d < 0) := by
    rw [isEmpty_digs, <- ea]
    by_cases hn : n < 0
    · have h1 : n * (d : Int) < 0 := Int.mul_neg_of_neg_of_pos hn (by omega)
      have h2 : (n * (d : Int)).natAbs ≠ 0 := by omega
      simp [hn, h1, h2]
    · have h1 : ¬ n * (d : Int) < 0 := Int.not_lt.2 (Int.mul_nonneg (by omega) (by omega))
      simp [hn, h1]
  refine ⟨b, p', n', c', hv, ?_, ?_, y⟩
  · rw [enc, ea, <- eb, <- hb]
    exact ⟨rfl, ⟨_, _, _, rfl, ho.ints⟩, trivial⟩
  · have := icap_ok (n * d)
    rwa [icap_fit (by rw [ea]; omega)] at this
theorem prod_len {x y : Nat} {i j : Nat} (hx : (digs x).length <= i) (hy : (digs y).length <= j) : (digs (x * y)).length <= i + j := by
  apply digs_len
  have h1 := val_lt (digs_limbs x); have h2 := val_lt (digs_limbs y)
  rw [val_digs] at h1 h2
  have h1' : x < 1000000000 ^ i := by
    have : ((x : Nat) : Int) < ((1000000000 ^ (digs x).length : Nat) : Int) := by simpa using h1
    exact Nat.lt_of_lt_of_le (Int.ofNat_lt.1 this) (Nat.pow_le_pow_right (by decide) hx)
  have h2' : y < 1000000000 ^ j := by
    have : ((y : Nat) : Int) < ((1000000000 ^ (digs y).length : Nat) : Int) := by simpa using h2
    exact Nat.lt_of_lt_of_le (Int.ofNat_lt.1 this) (Nat.pow_le_pow_right (by decide) hy)
  rw [Nat.pow_add]
  exact Nat.mul_lt_mul'' h1' h2'
end Go.Proofs.YtfehpaekbbmkcaaGreatDoor
namespace Go.Proofs.YtfehpaekbbmkcaaGreatDoor
open Go Go.Proofs.YtfehpaekbbmkcaaGreatDoor.Sx
def rat0 : List D0 := [.bool false, .ints [], .ints []]
def redN (n : Int) (d : Nat) : Int := if n < 0 then -((n.natAbs / Nat.gcd n.natAbs d : Nat) : Int) else ((n.natAbs / Nat.gcd n.natAbs d : Nat) : Int)
def redD (n : Int) (d : Nat) : Nat := d / Nat.gcd n.natAbs d
def redOk (n : Int) (d : Nat) : Bool := decide ((digs (n.natAbs / Nat.gcd n.natAbs d)).length <= 18) && decide ((digs (d / Nat.gcd n.natAbs d)).length <= 18)
def redR (n : Int) (d : Nat) : List D0 := if redOk n d then rmk (redN n d) (redD n d) else rat0
theorem redR_code (n : Int) (d : Nat) : (redR n d).map D0.code = [.bool, .ints, .ints] := by unfold redR; split <;> rfl
theorem redN_abs (n : Int) (d : Nat) : (redN n d).natAbs = n.natAbs / Nat.gcd n.natAbs d := by
  unfold redN
  generalize n.natAbs / Nat.gcd n.natAbs d = q
  split <;> omega
theorem enc_redN (n : Int) (d : Nat) : enc (redN n d) = mkS (decide (n < 0)) (digs (n.natAbs / Nat.gcd n.natAbs d)) := by
  unfold redN
  by_cases h : n < 0
  · rw [if_pos h, decide_eq_true h, mkS_neg]
  · rw [if_neg h, decide_eq_false h, mkS_pos]
theorem gcd_pos_right {m d : Nat} (hd : 0 < d) : 0 < Nat.gcd m d := Nat.gcd_pos_of_pos_right m hd
theorem redD_pos {n : Int} {d : Nat} (hd : 0 < d) : 0 < redD n d := Nat.div_pos (Nat.le_of_dvd hd (Nat.gcd_dvd_right _ _)) (gcd_pos_right hd)
theorem red_coprime {n : Int} {d : Nat} (hd : 0 < d) : Nat.gcd (redN n d).natAbs (redD n d) = 1 := by
  rw [redN_abs, redD, Nat.gcd_div (Nat.gcd_dvd_left _ _) (Nat.gcd_dvd_right _ _)]
  exact Nat.div_self (gcd_pos_right hd)
theorem redR_ok {n : Int} {d : Nat} (hd : 0 < d) (h : redOk n d = true) : ratOk (redR n d) = true := by
  have h' := h
  simp only [redOk, Bool.and_eq_true, decide_eq_true_eq] at h'
  rw [redR, if_pos h]
  exact ratOk_rmk (redD_pos hd) (red_coprime hd) (by rw [redN_abs]; exact h'.1) h'.2
theorem redOk_small {n : Int} {d : Nat} (h1 : (digs n.natAbs).length <= 18) (h2 : (digs d).length <= 18) : redOk n d = true := by
  simp only [redOk, Bool.and_eq_true, decide_eq_true_eq]
  exact ⟨Nat.le_trans (digs_mono_len (Nat.div_le_self _ _)) h1, Nat.le_trans (digs_mono_len (Nat.div_le_self _ _)) h2⟩
theorem redR_small {n : Int} {d : Nat} (h1 : (digs n.natAbs).length <= 18) (h2 : (digs d).length <= 18) : redR n d = rmk (redN n d) (redD n d) := by rw [redR, if_pos (redOk_small h1 h2)]
theorem redN_len {n : Int} {d : Nat} : (digs (redN n d).natAbs).length <= (digs n.natAbs).length := by rw [redN_abs]; exact digs_mono_len (Nat.div_le_self _ _)
theorem redD_len {n : Int} {d : Nat} : (digs (redD n d)).length <= (digs d).length := digs_mono_len (Nat.div_le_self _ _)
def modeAway (m : Int) (neg : Bool) (half : Int) (odd : Bool) : Bool :=
 if m = 0 then false else if m = 1 then true else if m = 2 then neg else if m = 3 then !neg else if m = 4 then decide (0 < half) else if m = 5 then decide (0 <= half) else decide (0 < half) || (decide (half = 0) && odd)
def roundM (n : Int) (d : Nat) (m : Int) : Nat :=
 if n.natAbs % d ≠ 0 /\ modeAway m (decide (n < 0)) (cmpL (digs (n.natAbs % d + n.natAbs % d)) (digs d)) (decide (n.natAbs / d % 2 = 1)) = true then n.natAbs / d + 1 else n.natAbs / d
def rround (n : Int) (d : Nat) (m : Int) : Int := if n < 0 then -((roundM n d m : Nat) : Int) else ((roundM n d m : Nat) : Int)
theorem rround_abs (n : Int) (d : Nat) (m : Int) : (rround n d m).natAbs = roundM n d m := by unfold rround; split <;> omega
theorem roundM_le (n : Int) (d : Nat) (m : Int) : roundM n d m <= n.natAbs / d + 1 := by unfold roundM; split <;> omega
theorem even_head {q : Nat} : (digs q).length = 0 ∨ (digs q).getD 0 0 % 2 = 0 ↔ q % 2 = 0 := by
  rcases Nat.eq_zero_or_pos q with h | h
  · subst h; rw [digs_zero]; simp
  · rw [digs_pos (by omega)]
    simp
    omega
end Go.Proofs.YtfehpaekbbmkcaaGreatDoor
namespace Go.Proofs.YtfehpaekbbmkcaaGreatDoor
open Go Go.Proofs.YtfehpaekbbmkcaaGreatDoor.Sx
def imul (d e : List D0) : List D0 := if intOk d && intOk e then icap (ival d * ival e) else enc 0
theorem enc_nat (n : Nat) : enc (n : Int) = [.bool false, .ints (digs n)] := (mkS_pos n).symm
theorem enc_ok {z : Int} (h : (digs z.natAbs).length <= 50) : intOk (enc z) = true := by rw [<- icap_fit h]; exact icap_ok z
theorem ten_len {k : Nat} (h : k <= 30) : (digs (10 ^ k)).length <= 4 := by
  apply digs_len
  have : (10 : Nat) ^ k <= 10 ^ 30 := Nat.pow_le_pow_right (by decide) h
  exact Nat.lt_of_le_of_lt this (by decide)
theorem prod_enc {b c : Bool} {z y : List Int} (hz : Limbs z) (hy : Limbs y) : mkS (!(b == c)) (capL (digs (val z * val y).toNat)) = icap (ival [.bool b, .ints z] * ival [.bool c, .ints y]) := by
  have h1 := val_nonneg hz; have h2 := val_nonneg hy
  have hp : 0 <= val z * val y := Int.mul_nonneg h1 h2
  obtain ⟨Q, hQ⟩ : ∃ Q, Q = val z * val y := ⟨_, rfl⟩
  rw [<- hQ] at hp ⊢
  apply mkS_digs
  · cases b <;> cases c <;> simp only [ival, if_true, Bool.false_eq_true, if_false, Int.neg_mul, Int.mul_neg, Int.neg_neg, <- hQ] <;> omega
  · intro h0
    cases b <;> cases c <;> simp only [ival, if_true, Bool.false_eq_true, if_false, Int.neg_mul, Int.mul_neg, Int.neg_neg, <- hQ] <;> simp <;> omega
theorem spec_IntMul_c {w : World} {xs ys : List Value} {dx dy : List D0} (h : Reps w xs dx) (k : Reps w ys dy) (hc : dx.map D0.code = [.bool, .ints]) (kc : dy.map D0.code = [.bool, .ints]) :
    Ret P n_spec_IntMul [.agg ⟨xs⟩, .agg ⟨ys⟩] w fun v w' => ∃ vs' f, v = .agg ⟨vs'⟩ /\ Owns w' w.heap.size vs' (imul dx dy) f /\ f.Nodup /\ Ext w w' := by
  have hr := h; have kr := k
  obtain ⟨a0, a1p, a1n, a1c, a1z, rfl, rfl, ha⟩ := open_Signed h hc
  obtain ⟨b0, b1p, b1n, b1c, b1z, rfl, rfl, hb⟩ := open_Signed k kc
  refine spec_IntMul_ret ?_
  unfold spec_IntMul
  intro r w1 hn1 r1 w2 hn2 r2 w3 hn3
  have X := (hn1.ext.trans hn2.ext).trans hn3.ext
  have e1 := hn1.r_eq; have e2 := hn2.r_eq; have e3 := hn3.r_eq; have s1 := hn1.size; have s2 := hn2.size; have s3 := hn3.size
  have k0 := (hn1.blk.ext hn2.ext).ext hn3.ext; have k1 := hn2.blk.ext hn3.ext; have k2 := hn3.blk
  have bad : ∀ W, Ext w3 W -> (intOk [.bool a0, .ints a1z] && intOk [.bool b0, .ints b1z]) = false -> ∃ wv_8, Stores P T_impl_Signed ⟨r2, 0, none⟩ (.agg #[(.bool false), (.slice none 0 0)]) W wv_8 /\
      ∃ (r0 : Bool) (r1_p : Option Addr) (r1_n : Nat) (r1_c : Nat), Loads P T_impl_Signed ⟨r2, 0, none⟩ (.agg #[(.bool r0), (.slice r1_p r1_n r1_c)]) wv_8 /\ (fun (v : Value) (w' : World) => ∃ vs' f, v = .agg ⟨vs'⟩ /\ Owns w' w.heap.size vs' (imul [.bool a0, .ints a1z] [.bool b0, .ints b1z]) f /\ f.Nodup /\ Ext w w') (.agg #[(.bool r0), (.slice r1_p r1_n r1_c)]) wv_8 := by
    intro W hW hno
    obtain ⟨w5, st, hb5, ch, sz⟩ := (k2.ext hW).storeA0 (P := P) (t := T_impl_Signed) (xs := [.bool false, .slice none 0 0]) (by kernel_rfl) rfl (by simp [Value.oneCell'])
    refine ⟨w5, st, _, _, _, _, hb5.loadA0 (by kernel_rfl), _, _, rfl, ?_, nodup_opt none, (X.trans hW).chg ch (by simp; omega)⟩
    have : imul [.bool a0, .ints a1z] [.bool b0, .ints b1z] = [.bool false, .ints []] := by rw [imul, hno, <- enc0]; rfl
    rw [this]
    exact Owns.int2 (z := []) (Own.nil w5 _ T_int 1 : Own w5 w.heap.size T_int 1 none 0 0 (([] : List Int).map (Value.int .i64)))
  refine ⟨_, _, _, _, k0.loadA0 (by kernel_rfl), ?_⟩
  refine Ret.at (spec_IntOk_c (hr.ext X) rfl) ?_
  rintro v w4 ⟨hv, y4⟩
  subst hv
  refine ⟨_, rfl, ifN (fun hno => ifT (bad w4 y4 (by simp [hno]))) (fun hok1 => ?_)⟩
  refine ⟨_, _, _, _, (k1.ext y4).loadA0 (by kernel_rfl), ?_⟩
  refine Ret.at (spec_IntOk_c (kr.ext (X.trans y4)) rfl) ?_
  rintro v w5 ⟨hv, y5⟩
  subst hv
  refine ⟨_, rfl, ifN (fun hno => bad w5 (y4.trans y5) (by simp [hno])) (fun hok2 => ?_)⟩
  have D := Ext.drew w5
  have X5 := ((X.trans y4).trans y5).trans D
  have q0 := (k0.ext y4).ext y5; have q1 := (k1.ext y4).ext y5; have q2 := ((k2.ext y4).ext y5).ext D
  have la := (intOk_enc hok1).2
  obtain ⟨_, _, h1, c1, l1⟩ := la
  simp only [List.cons.injEq, D0.bool.injEq, D0.ints.injEq, and_true] at h1
  obtain ⟨rfl, rfl⟩ := h1
  obtain ⟨_, _, h2, c2, l2⟩ := (intOk_enc hok2).2
  simp only [List.cons.injEq, D0.bool.injEq, D0.ints.injEq, and_true] at h2
  obtain ⟨rfl, rfl⟩ := h2
  have ln1 := ha.1; have ln2 := hb.1
  refine ⟨_, fun W hW => (q0.ext (D.trans hW)).loadAt 0 rfl (by kernel_rfl) rfl, _, fun W hW => (q1.ext (D.trans hW)).loadAt 0 rfl (by kernel_rfl) rfl, _, _, _, fun W hW => (q0.ext (D.trans hW)).loadAt 1 rfl (by kernel_rfl) rfl, _, _, _, fun W hW => (q1.ext (D.trans hW)).loadAt 1 rfl (by kernel_rfl) rfl, ?_⟩
  refine Ret.at (spec_l02Mul_c (ha.ext X5) (hb.ext X5) c1.1 c2.1 (by omega) (by omega)) ?_
  rintro v w6 ⟨p, n, c, hv, ho, y6⟩
  subst hv
  refine ⟨_, _, _, rfl, y6, ?_⟩
  refine Ret.at (spec_l04Make_c ho.ints (digs_limbs _)) ?_
  rintro v w7 ⟨b, q, qn, qc, hv, hbb, ho2, y7⟩
  subst hv
  have l3 := X5.le; have l6 := y6.le
  obtain ⟨w8, st, hb8, ch, sz⟩ := ((q2.ext y6).ext y7).storeA0 (P := P) (t := T_impl_Signed) (xs := [.bool b, .slice q qn qc]) (by kernel_rfl) rfl (by simp [Value.oneCell'])
  have ow := Owns.int2 (b := b) ho2
  rw [hbb] at ow
  rw [val_digs, show ((((val a1z * val b1z).toNat : Nat) : Int)).toNat = (val a1z * val b1z).toNat from rfl] at ow
  have ow2 : Owns w7 w6.heap.size [.bool b, .slice q qn qc] (imul [.bool a0, .ints a1z] [.bool b0, .ints b1z]) (q.map (·.block)).toList := by
    rw [imul, hok1, hok2]
    simp only [Bool.and_self, if_true]
    rw [<- prod_enc c1.1 c2.1, hbb, val_digs]
    exact ow
  have l35 := y4.le; have l45 := y5.le; have lD := D.le
  exact ⟨_, _, _, _, rfl, w8, st, _, _, _, _, hb8.loadA0 (by kernel_rfl), _, _, rfl, (ow2.chg1 ch (by omega)).mono (by omega), nodup_opt q, ((X5.trans y6).trans y7).chg ch (by simp; omega)⟩
theorem spec_l07Ten_c {w : World} {k : Int} (h0 : 0 <= k) (h1 : k <= 449) :
    Ret P n_spec_l07Ten [.int .i64 k] w fun v w' => ∃ vs' f, v = .agg ⟨vs'⟩ /\ Owns w' w.heap.size vs' (enc ((10 ^ k.toNat : Nat) : Int)) f /\ f.Nodup /\ Ext w w' := by
  refine spec_l07Ten_ret ?_
  unfold spec_l07Ten
  intro r w1 hn1
  have e1 := hn1.r_eq; have s1 := hn1.size
  refine Ret.at (spec_NatTen_c h0 h1) ?_
  rintro v w2 ⟨p, n, c, hv, ho, y2⟩
  subst hv
  obtain ⟨w3, st, hb3, ch, sz⟩ := (hn1.blk.ext y2).storeA0 (P := P) (t := T_impl_Signed) (xs := [.bool false, .slice p n c]) (by kernel_rfl) rfl (by simp [Value.oneCell'])
  refine ⟨_, _, _, rfl, w3, st, _, _, _, _, hb3.loadA0 (by kernel_rfl), _, _, rfl, ?_, nodup_opt p, (hn1.ext.trans y2).chg ch (by simp; omega)⟩
  rw [enc_nat]
  exact ((Owns.int2 ho).chg1 ch (by omega)).mono (by omega)
theorem spec_l07Both_c {w : World} {xs ys : List Value} {b c : Bool} {z y : List Int} {s t : Int} (h : Reps w xs [.bool b, .ints z, .int s]) (k : Reps w ys [.bool c, .ints y, .int t]) (hok1 : decOk [.bool b, .ints z, .int s] = true) (hok2 : decOk [.bool c, .ints y, .int t] = true) :
    Ret P n_spec_l07Both [.agg ⟨xs⟩, .agg ⟨ys⟩] w fun v w' => ∃ us vs, v = .tuple #[.agg ⟨us⟩, .agg ⟨vs⟩, .int .i64 (max s t)] /\ Reps w' us (enc (ival [.bool b, .ints z] * 10 ^ (max s t - s).toNat)) /\ Reps w' vs (enc (ival [.bool c, .ints y] * 10 ^ (max s t - t).toNat)) /\ Ext w w' := by
  have hr := h; have kr := k
  obtain ⟨a0, a1p, a1n, a1c, a1z, a2, rfl, hd, ha⟩ := open_Dec h rfl
  obtain ⟨b0, b1p, b1n, b1c, b1z, b2, rfl, he, hb⟩ := open_Dec k rfl
  cases hd; cases he
  obtain ⟨o1, l1, s1, t1⟩ := decOk_spec hok1
  obtain ⟨o2, l2, s2, t2⟩ := decOk_spec hok2
  refine spec_l07Both_ret ?_
  unfold spec_l07Both
  intro r w1 hn1 r1 w2 hn2 r2 w3 hn3 r3 w4 hn4
  have X := ((hn1.ext.trans hn2.ext).trans hn3.ext).trans hn4.ext
  have e1 := hn1.r_eq; have e2 := hn2.r_eq; have e3 := hn3.r_eq; have e4 := hn4.r_eq; have z1 := hn1.size; have z2 := hn2.size; have z3 := hn3.size; have z4 := hn4.size
  have k0 := ((hn1.blk.ext hn2.ext).ext hn3.ext).ext hn4.ext; have k1 := (hn2.blk.ext hn3.ext).ext hn4.ext; have k2 := hn3.blk.ext hn4.ext; have k3 := hn4.blk
  have j : ∀ m : Int, m = max s t -> spec_l07Both_j0 r r1 r2 r3 m w4 fun v w' => ∃ us vs, v = .tuple #[.agg ⟨us⟩, .agg ⟨vs⟩, .int .i64 (max s t)] /\ Reps w' us (enc (ival [.bool b, .ints z] * 10 ^ (max s t - s).toNat)) /\ Reps w' vs (enc (ival [.bool c, .ints y] * 10 ^ (max s t - t).toNat)) /\ Ext w w' := by
    intro m hm
    subst hm
    unfold spec_l07Both_j0
    have D := Ext.drew w4
    have XD := X.trans D
    have p1 := scaled_len o1 l1 (e := (max s t - s).toNat) (by omega)
    have p2 := scaled_len o2 l2 (e := (max s t - t).toNat) (by omega)
    have q1 := ten_len (k := (max s t - s).toNat) (by omega)
    have q2 := ten_len (k := (max s t - t).toNat) (by omega)
    have lD := D.le
    refine ⟨_, _, _, _, fun W hW => (k0.ext (D.trans hW)).loadAAt 0 [.bool b, .slice a1p a1n a1c] rfl (by kernel_rfl) rfl, _, fun W hW => (k0.ext (D.trans hW)).loadAt 2 rfl (by kernel_rfl) rfl, exW ⟨by omega, by omega⟩ ?_⟩
    refine Ret.at (spec_l07Ten_c (by omega) (by omega)) ?_
    rintro v w5 ⟨vs5, f5, hv, ho5, _, y5⟩
    subst hv
    obtain ⟨g0, gp, gn, gc, gz, rfl, hg, hgi⟩ := open_Signed ho5.reps (enc_code _)
    refine ⟨_, _, _, _, rfl, y5, ?_⟩
    have hx : Reps w4.drew [.bool b, .slice a1p a1n a1c] [.bool b, .ints z] := ⟨rfl, ⟨_, _, _, rfl, ha.ext XD⟩, trivial⟩
    have hy : Reps w4.drew [.bool c, .slice b1p b1n b1c] [.bool c, .ints y] := ⟨rfl, ⟨_, _, _, rfl, hb.ext XD⟩, trivial⟩
    refine Ret.at (spec_IntMul_c (hx.ext y5) ho5.reps rfl (enc_code _)) ?_
    rintro v w6 ⟨vs6, f6, hv, ho6, _, y6⟩
    subst hv
    have ee : ∀ (d : List D0) (m : Nat), intOk d = true -> (digs (10 ^ m)).length <= 4 -> (digs (ival d * 10 ^ m).natAbs).length <= 10 -> imul d (enc ((10 ^ m : Nat) : Int)) = enc (ival d * 10 ^ m) := by
      intro d m hd h1 h2
      have e : ((10 ^ m : Nat) : Int) = (10 : Int) ^ m := by simp
      rw [imul, hd, enc_ok (by rw [Int.natAbs_natCast]; omega)]
      simp only [Bool.and_self, if_true]
      rw [ival_enc, e]
      exact icap_fit (by omega)
    rw [ee _ _ o1 q1 p1] at ho6
    obtain ⟨g0, gp, gn, gc, gz, rfl, hg, hgi⟩ := open_Signed ho6.reps (enc_code _)
    refine ⟨_, _, _, _, rfl, y6, _, _, _, _, fun W hW => (k1.ext (D.trans hW)).loadAAt 0 [.bool c, .slice b1p b1n b1c] rfl (by kernel_rfl) rfl, _, fun W hW => (k1.ext (D.trans hW)).loadAt 2 rfl (by kernel_rfl) rfl, exW ⟨by omega, by omega⟩ ?_⟩
    refine Ret.at (spec_l07Ten_c (by omega) (by omega)) ?_
    rintro v w7 ⟨vs7, f7, hv, ho7, _, y7⟩
    subst hv
    obtain ⟨i0, ip, i_n, ic, iz, rfl, hi, hii⟩ := open_Signed ho7.reps (enc_code _)
    refine ⟨_, _, _, _, rfl, y7, ?_⟩
    refine Ret.at (spec_IntMul_c (((hy.ext y5).ext y6).ext y7) ho7.reps rfl (enc_code _)) ?_
    rintro v w8 ⟨vs8, f8, hv, ho8, _, y8⟩
    subst hv
    rw [ee _ _ o2 q2 p2] at ho8
    obtain ⟨i0, ip, i_n, ic, iz, rfl, hi, hii⟩ := open_Signed ho8.reps (enc_code _)
    have l5 := y5.le; have l6 := y6.le; have l7 := y7.le; have l8 := y8.le
    have Y := (((D.trans y5).trans y6).trans y7).trans y8
    obtain ⟨w9, st9, hb9, ch9, sz9⟩ := (k2.ext Y).storeA0 (P := P) (t := T_impl_Signed) (xs := [.bool g0, .slice gp gn gc]) (by kernel_rfl) rfl (by simp [Value.oneCell'])
    obtain ⟨w10, st10, hb10, ch10, sz10⟩ := ((k3.ext Y).chg ch9 (by simp; omega)).storeA0 (P := P) (t := T_impl_Signed) (xs := [.bool i0, .slice ip i_n ic]) (by kernel_rfl) rfl (by simp [Value.oneCell'])
    have r6 := ((((ho6.ext y7).ext y8).chg1 ch9 (by omega)).chg1 ch10 (by omega)).reps
    have r8 := ((ho8.chg1 ch9 (by omega)).chg1 ch10 (by omega)).reps
    exact ⟨_, _, _, _, rfl, w9, st9, w10, st10, _, _, _, _, (hb9.chg ch10 (by simp; omega)).loadA0 (by kernel_rfl), _, _, _, _, hb10.loadA0 (by kernel_rfl), _, _, rfl, r6, r8, ((X.trans Y).chg ch9 (by simp; omega)).chg ch10 (by simp; omega)⟩
  refine ⟨_, k0.loadAt 2 rfl (by kernel_rfl) rfl, _, k1.loadAt 2 rfl (by kernel_rfl) rfl, ifD (fun hlt => ⟨_, k1.loadAt 2 rfl (by kernel_rfl) rfl, j _ (by omega)⟩) (fun hge => j _ (by omega))⟩
theorem spec_DecCmp_c {w : World} {xs ys : List Value} {dx dy : List D0} (h : Reps w xs dx) (k : Reps w ys dy) (hc : dx.map D0.code = [.bool, .ints, .int]) (kc : dy.map D0.code = [.bool, .ints, .int]) :
    Ret P n_spec_DecCmp [.agg ⟨xs⟩, .agg ⟨ys⟩] w fun v w' => v = .int .i64 (dcmp dx dy) /\ Ext w w' := by
  have hr := h; have kr := k
  obtain ⟨a0, a1p, a1n, a1c, a1z, a2, rfl, rfl, ha⟩ := open_Dec h hc
  obtain ⟨b0, b1p, b1n, b1c, b1z, b2, rfl, rfl, hb⟩ := open_Dec k kc
  refine spec_DecCmp_ret ?_
  unfold spec_DecCmp
  intro r w1 hn1 r1 w2 hn2
  have X := hn1.ext.trans hn2.ext
  have k0 := hn1.blk.ext hn2.ext; have k1 := hn2.blk
  have bad : ∀ W, Ext w2 W -> (decOk [.bool a0, .ints a1z, .int a2] && decOk [.bool b0, .ints b1z, .int b2]) = false -> Value.int .i64 0 = .int .i64 (dcmp [.bool a0, .ints a1z, .int a2] [.bool b0, .ints b1z, .int b2]) /\ Ext w W := fun W hW hno => ⟨by simp only [dcmp, hno]; rfl, X.trans hW⟩
  refine ⟨_, _, _, _, _, k0.loadA0 (by kernel_rfl), ?_⟩
  refine Ret.at (spec_DecOk_c (hr.ext X) rfl) ?_
  rintro v w3 ⟨hv, y3⟩
  subst hv
  refine ⟨_, rfl, ifN (fun hno => ifT (bad w3 y3 (by simp [hno]))) (fun hok1 => ?_)⟩
  refine ⟨_, _, _, _, _, (k1.ext y3).loadA0 (by kernel_rfl), ?_⟩
  refine Ret.at (spec_DecOk_c (kr.ext (X.trans y3)) rfl) ?_
  rintro v w4 ⟨hv, y4⟩
  subst hv
  refine ⟨_, rfl, ifN (fun hno => bad w4 (y3.trans y4) (by simp [hno])) (fun hok2 => ?_)⟩
  obtain ⟨o1, l1, s1, t1⟩ := decOk_spec hok1
  obtain ⟨o2, l2, s2, t2⟩ := decOk_spec hok2
  have X4 := (X.trans y3).trans y4
  unfold spec_DecCmp_j0
  refine ⟨_, _, _, _, _, ((k0.ext y3).ext y4).loadA0 (by kernel_rfl), _, _, _, _, _, ((k1.ext y3).ext y4).loadA0 (by kernel_rfl), ?_⟩
  refine Ret.at (spec_l07Both_c (hr.ext X4) (kr.ext X4) hok1 hok2) ?_
  rintro v w5 ⟨us, vs, hv, g1, g2, y5⟩
  subst hv
  have g1' := g1; have g2' := g2
  obtain ⟨g0, gp, gn, gc, gz, rfl, hg, hgi⟩ := open_Signed g1 (enc_code _)
  obtain ⟨i0, ip, i_n, ic, iz, rfl, hi, hii⟩ := open_Signed g2 (enc_code _)
  refine ⟨_, _, _, _, _, _, _, _, _, rfl, ?_⟩
  intro r2 w6 hn6 r3 w7 hn7
  have e6 := hn6.r_eq; have e7 := hn7.r_eq; have z6 := hn6.size; have z7 := hn7.size
  obtain ⟨w8, st8, hb8, ch8, sz8⟩ := (hn6.blk.ext hn7.ext).storeA0 (P := P) (t := T_impl_Signed) (xs := [.bool g0, .slice gp gn gc]) (by kernel_rfl) rfl (by simp [Value.oneCell'])
  obtain ⟨w9, st9, hb9, ch9, sz9⟩ := (hn7.blk.chg ch8 (by simp; omega)).storeA0 (P := P) (t := T_impl_Signed) (xs := [.bool i0, .slice ip i_n ic]) (by kernel_rfl) rfl (by simp [Value.oneCell'])
  have Y := (((hn6.ext.trans hn7.ext).chg ch8 (by simp; omega)).chg ch9 (by simp; omega))
  refine ⟨w8, st8, w9, st9, _, _, _, _, (hb8.chg ch9 (by simp; omega)).loadA0 (by kernel_rfl), _, _, _, _, hb9.loadA0 (by kernel_rfl), ?_⟩
  refine Ret.at (spec_IntCmp_c (g1'.ext Y) (g2'.ext Y) (enc_code _) (enc_code _)) ?_
  rintro v w10 ⟨hv, y10⟩
  subst hv
  refine ⟨_, rfl, ?_, ((X4.trans y5).trans Y).trans y10⟩
  have p1 := scaled_len o1 l1 (e := (max a2 b2 - a2).toNat) (by omega)
  have p2 := scaled_len o2 l2 (e := (max a2 b2 - b2).toNat) (by omega)
  rw [icmp_enc (enc_ok (by omega)) (enc_ok (by omega))]
  simp only [dcmp, hok1, hok2, Bool.and_self, if_true]
end Go.Proofs.YtfehpaekbbmkcaaGreatDoor
namespace Go.Proofs.YtfehpaekbbmkcaaGreatDoor
open Go Go.Proofs.YtfehpaekbbmkcaaGreatDoor.Sx
def dnn (m : Nat) (s : Int) : List D0 := [.bool false, .ints (digs m), .int s]
theorem inn_ok {m : Nat} (h : (digs m).length <= 50) : intOk [.bool false, .ints (digs m)] = true := by
  simp only [intOk, natOk_spec.2 ⟨digs_canon m, h⟩, Bool.not_false, Bool.true_or, Bool.and_self]
theorem dnn_ok {m : Nat} {s : Int} (h : (digs m).length <= 6) (hs : 0 <= s /\ s <= 30) : decOk (dnn m s) = true := by
  simp only [decOk, dnn, inn_ok (show (digs m).length <= 50 by omega), decide_eq_true h, decide_eq_true hs, Bool.and_self]
theorem own_out {w : World} {B : Nat} {e : TypeId} {size : Nat} {p : Option Addr} {n c : Nat} {xs : List Value} (h : Own w B e size p n c xs) : ∀ b, p.map (·.block) = some b -> B <= b := fun b hb =>
  (World.ownsRow.lt h b (by cases p <;> simp_all [Value.ownBlock])).1
theorem imul_nn {m k : Nat} (hm : (digs m).length <= 50) (hk : (digs k).length <= 50) (h : (digs (m * k)).length <= 50) : imul [.bool false, .ints (digs m)] [.bool false, .ints (digs k)] = [.bool false, .ints (digs (m * k))] := by
  have e : ((m : Int) * (k : Int)) = ((m * k : Nat) : Int) := by rw [Int.natCast_mul]
  rw [imul, inn_ok hm, inn_ok hk, <- enc_nat m, <- enc_nat k, ival_enc, ival_enc, e, icap_fit (by rw [Int.natAbs_natCast]; exact h), enc_nat]
  rfl
end Go.Proofs.YtfehpaekbbmkcaaGreatDoor
namespace Go.Proofs.YtfehpaekbbmkcaaGreatDoor
open Go Go.Proofs.YtfehpaekbbmkcaaGreatDoor.Sx
theorem digs_pos_len {m : Nat} : 0 < (digs m).length ↔ m ≠ 0 := by
  constructor
  · intro h e
    rw [e, digs_zero] at h
    simp at h
  · intro h
    rw [digs_pos h]
    simp
theorem val_div (m k : Nat) : (val (digs m) / val (digs k)).toNat = m / k := by rw [val_digs, val_digs]; exact ediv_toNat m k
theorem val_mod (m k : Nat) : (val (digs m) % val (digs k)).toNat = m % k := by rw [val_digs, val_digs]; exact emod_toNat m k
end Go.Proofs.YtfehpaekbbmkcaaGreatDoor
namespace Go.Proofs.YtfehpaekbbmkcaaGreatDoor
open Go Go.Proofs.YtfehpaekbbmkcaaGreatDoor.Sx
theorem agg_end {t : TypeId} {w W : World} {r : Nat} {e : TypeId} {old xs : List Value} {d : List D0} {f : List Nat} {B : Nat} (hb : Blk W r e old) (X : Ext w W) (hr : w.heap.size <= r)
    (ho : Owns W B xs d f) (ht : aggT P t xs.length = true) (hlen : xs.length = old.length) (hrB : r < B) (hwB : w.heap.size <= B) :
    ∃ W', Stores P t ⟨r, 0, none⟩ (.agg ⟨xs⟩) W W' /\ Loads P t ⟨r, 0, none⟩ (.agg ⟨xs⟩) W' /\ Owns W' w.heap.size xs d f /\ Ext w W' /\ Chg [r] W W' /\ Blk W' r e xs := by
  obtain ⟨W', st, hb', ch, _⟩ := hb.storeA0 (P := P) (t := t) (xs := xs) ht hlen ho.reps.cells1
  exact ⟨W', st, hb'.loadA0 ht, (ho.chg1 ch hrB).mono hwB, X.chg ch (by simp; exact hr), ch, hb'⟩
theorem own_rat0 (W : World) (B : Nat) : Owns W B [.bool false, .slice none 0 0, .slice none 0 0] rat0 [] :=
  Owns.append (Owns.bool W B false) (Owns.append (Owns.ints (zs := []) (Own.nil W B T_int 1)) (Owns.ints (zs := []) (Own.nil W B T_int 1)))
theorem own_sgn0 (W : World) (B : Nat) : Owns W B [.bool false, .slice none 0 0] (enc 0) [] := by
  rw [enc0]
  exact Owns.append (Owns.bool W B false) (Owns.ints (zs := []) (Own.nil W B T_int 1))
theorem redR_no {n : Int} {d : Nat} (h : redOk n d = false) : redR n d = rat0 := by rw [redR, h]; rfl
theorem redR_yes {n : Int} {d : Nat} (h : redOk n d = true) : redR n d = rmk (redN n d) (redD n d) := by rw [redR, if_pos h]
theorem own_rmk {W : World} {B : Nat} {b : Bool} {p q : Option Addr} {n c m c2 : Nat} {N : Int} {D : Nat} {f : List Nat} (h : Owns W B [.bool b, .slice p n c] (enc N) f) (k : Own W B T_int 1 q m c2 ((digs D).map (Value.int .i64))) : Owns W B [.bool b, .slice p n c, .slice q m c2] (rmk N D) (f ++ (q.map (·.block)).toList) := by
  rw [rmk_enc]; exact Owns.append h (Owns.ints k)
theorem impl_reduce_c {w : World} {xs : List Value} {n : Int} {d : Nat} {p : Option Addr} {m c : Nat} (h : Reps w xs (enc n)) (k : IntsR w p m c (digs d)) (hd : 0 < d) (hl : (digs n.natAbs).length <= 1000) (hm : m <= 1000) :
    Ret P n_impl_reduce [.agg ⟨xs⟩, .slice p m c] w fun v w' => ∃ vs f, v = .tuple #[.agg ⟨vs⟩, .bool (redOk n d)] /\ Owns w' w.heap.size vs (redR n d) f /\ f.Nodup /\ Ext w w' := by
  obtain ⟨a0, ap, an, ac, az, rfl, hda, ha⟩ := open_Signed h (enc_code _)
  simp only [enc, List.cons.injEq, D0.bool.injEq, D0.ints.injEq, and_true] at hda
  obtain ⟨rfl, rfl⟩ := hda
  have hla := ha.1; have hlk := k.1
  refine impl_reduce_ret ?_
  unfold impl_reduce
  intro r w1 hn1 r1 w2 hn2
  have e1 := hn1.r_eq; have e2 := hn2.r_eq; have z1 := hn1.size; have z2 := hn2.size
  have X := hn1.ext.trans hn2.ext
  have q0 := hn1.blk.ext hn2.ext
  refine ⟨_, _, _, q0.loadAt 1 rfl (by kernel_rfl) rfl, ?_⟩
  refine Ret.at (impl_natGcd_c (ha.ext X) (k.ext X) (by omega) (by omega)) ?_
  rintro v w3 ⟨p3, n3, c3, hv, og, y3⟩
  subst hv
  have G := og.ints
  have gpos : 0 < Nat.gcd n.natAbs d := gcd_pos_right hd
  have lg := G.1
  have hg3 : 0 < n3 := by have := digs_pos_len.2 (show Nat.gcd n.natAbs d ≠ 0 by omega); omega
  have hg4 : n3 <= 1000 := by have := digs_mono_len (Nat.le_of_dvd hd (Nat.gcd_dvd_right n.natAbs d)); omega
  refine ⟨_, _, _, rfl, _, _, _, (q0.ext y3).loadAt 1 rfl (by kernel_rfl) rfl, ?_⟩
  refine Ret.at (impl_natDiv_c (ha.ext (X.trans y3)) G (digs_canon _) (digs_canon _) hg3 (by omega) (by omega)) ?_
  rintro v w4 ⟨p4, n4, c4, p5, n5, c5, hv, o4, _, _, y4⟩
  subst hv
  rw [val_div] at o4
  refine ⟨_, _, _, _, _, _, rfl, ?_⟩
  refine Ret.at (impl_natDiv_c (k.ext ((X.trans y3).trans y4)) (G.ext y4) (digs_canon _) (digs_canon _) hg3 (by omega) (by omega)) ?_
  rintro v w5 ⟨p6, n6, c6, p7, n7, c7, hv, o6, _, _, y5⟩
  subst hv
  rw [val_div] at o6
  have l4 := o4.ints.1; have l6 := o6.ints.1
  have Y := y3.trans (y4.trans y5)
  have q0 := q0.ext Y; have q1 := hn2.blk.ext Y
  have ly3 := y3.le; have ly4 := y4.le; have ly5 := y5.le
  have hok : redOk n d = (decide (n4 <= 18) && decide (n6 <= 18)) := by rw [redOk, l4, l6]
  have bad : redOk n d = false -> ∃ W', Stores P T_impl_Rat ⟨r1, 0, none⟩ (.agg ⟨[.bool false, .slice none 0 0, .slice none 0 0]⟩) w5 W' /\ Loads P T_impl_Rat ⟨r1, 0, none⟩ (.agg ⟨[.bool false, .slice none 0 0, .slice none 0 0]⟩) W' /\ Owns W' w.heap.size [.bool false, .slice none 0 0, .slice none 0 0] (redR n d) [] /\ Ext w W' := fun hno => by
    obtain ⟨W', st, ld, ow, xx, _, _⟩ := agg_end (t := T_impl_Rat) q1 (X.trans Y) (by omega) (own_rat0 w5 (r1 + 1)) (by kernel_rfl) rfl (by omega) (by omega)
    exact ⟨W', st, ld, by rw [redR_no hno]; exact ow, xx⟩
  refine ⟨_, _, _, _, _, _, rfl, ifD (fun h4 => ifT ?_) (fun h4 => ifD (fun h6 => ?_) (fun h6 => ?_))⟩
  · have hno : redOk n d = false := by rw [hok, decide_eq_false (by omega)]; rfl
    obtain ⟨W', st, ld, ow, xx⟩ := bad hno
    exact ⟨W', st, _, _, _, _, _, _, _, ld, _, [], by rw [hno], ow, List.nodup_nil, xx⟩
  · have hno : redOk n d = false := by rw [hok, decide_eq_false (show ¬ n6 <= 18 by omega), Bool.and_false]
    obtain ⟨W', st, ld, ow, xx⟩ := bad hno
    exact ⟨W', st, _, _, _, _, _, _, _, ld, _, [], by rw [hno], ow, List.nodup_nil, xx⟩
  · have hyes : redOk n d = true := by rw [hok, decide_eq_true (show n4 <= 18 by omega), decide_eq_true (show n6 <= 18 by omega)]; rfl
    refine ⟨_, q0.loadAt 0 rfl (by kernel_rfl) rfl, ?_⟩
    refine Ret.at (impl_signed_c (neg := decide (n < 0)) (o4.ext y5).ints.1) ?_
    rintro v w6 ⟨hv, y6⟩
    subst hv
    have ho : Owns w6 w3.heap.size [.bool (decide (n < 0) && !(digs (n.natAbs / Nat.gcd n.natAbs d)).isEmpty), .slice p4 n4 c4] (enc (redN n d)) (p4.map (·.block)).toList := by
      rw [enc_redN]
      exact Owns.int2 ((o4.ext y5).ext y6)
    have hr := own_rmk ho ((o6.mono (show w3.heap.size <= w4.heap.size by omega)).ext y6)
    obtain ⟨W', st, ld, ow, xx, _, _⟩ := agg_end (t := T_impl_Rat) (q1.ext y6) ((X.trans Y).trans y6) (by omega) hr (by kernel_rfl) rfl (by omega) (by omega)
    refine ⟨_, _, _, _, rfl, W', st, _, _, _, _, _, _, _, ld, _, _, by rw [hyes], by rw [redR_yes hyes]; exact ow, ?_, xx⟩
    exact nodup_append (nodup_opt p4) (nodup_opt p6) (m := w4.heap.size) (fun q hq => (ho.lt q hq).2 |> fun _ => (World.ownsRow.lt o4 q (by cases p4 <;> simp_all [Value.ownBlock])).2) (fun q hq => (World.ownsRow.lt o6 q (by cases p6 <;> simp_all [Value.ownBlock])).1)
theorem spec_l05Gcd_c {w : World} {p q : Option Addr} {n c m d : Nat} {x y : Nat} (h : IntsR w p n c (digs x)) (k : IntsR w q m d (digs y)) (hn : n <= 1000) (hm : m <= 1000) :
    Ret P n_spec_l05Gcd [.slice p n c, .slice q m d] w fun v w' => ∃ p' n' c', v = .slice p' n' c' /\ IntsR w' p' n' c' (digs (Nat.gcd x y)) /\ Ext w w' := by
  refine spec_l05Gcd_ret ?_
  unfold spec_l05Gcd
  obtain ⟨f, hf⟩ := numAt_ex
  refine ⟨fun ap an ac bp bn bc wr => ∃ s t, IntsR wr ap an ac (digs s) /\ IntsR wr bp bn bc (digs t) /\ an <= 100000 /\ bn <= 100000 /\ Ext w wr /\ Nat.gcd s t = Nat.gcd x y, fun _ _ _ bp bn bc W => f W bp bn bc, ⟨x, y, h, k, by omega, by omega, Ext.refl _, rfl⟩, ?_⟩
  intro junk wr ap an ac bp bn bc ⟨s, t, ha, hb, han, hbn, hx, hg⟩
  have hbl := hb.1
  refine ifD (fun hlt => ?_) (fun hge => ?_)
  · have ht : 0 < t := by
      rcases Nat.eq_zero_or_pos t with e | e
      · subst e; rw [digs_zero] at hbl; simp at hbl; omega
      · exact e
    refine Ret.at (spec_l03Div_c ha hb (digs_limbs _) (digs_canon _) (by omega) han hbn) ?_
    rintro v w1 ⟨p1, n1, c1, p2, n2, c2, hv, o1, o2, y1⟩
    subst hv
    rw [val_mod] at o2
    have hn2 : n2 <= bn := by
      have := o2.1
      have := digs_mod_len (x := s) ht
      omega
    refine ⟨_, _, _, _, _, _, rfl, ⟨t, s % t, hb.ext y1, o2, hbn, by omega, hx.trans y1, by rw [gcd_step, hg]⟩, ?_⟩
    show f w1 p2 n2 c2 < f wr bp bn bc
    rw [hf _ _ _ _ _ o2, hf _ _ _ _ _ hb]
    exact Nat.mod_lt _ ht
  · have ht : t = 0 := by
      have : bn = 0 := by omega
      rw [this] at hbl
      exact digs_nil.1 (List.eq_nil_of_length_eq_zero hbl)
    subst ht
    rw [Nat.gcd_zero_right] at hg
    subst hg
    exact ⟨_, _, _, rfl, ha, hx⟩
theorem spec_l05Low_c {w : World} {neg : Bool} {n : Int} {d : Nat} {p q : Option Addr} {m c m2 c2 : Nat} (h : IntsR w p m c (digs n.natAbs)) (k : IntsR w q m2 c2 (digs d)) (hneg : n ≠ 0 -> neg = decide (n < 0)) (hd : 0 < d) (hl : m <= 1000) (hm : m2 <= 1000) :
    Ret P n_spec_l05Low [.bool neg, .slice p m c, .slice q m2 c2] w fun v w' => ∃ vs f, v = .tuple #[.agg ⟨vs⟩, .bool (redOk n d)] /\ Owns w' w.heap.size vs (redR n d) f /\ f.Nodup /\ Ext w w' := by
  have hla := h.1; have hlk := k.1
  refine spec_l05Low_ret ?_
  unfold spec_l05Low
  intro r w1 hn1
  have e1 := hn1.r_eq; have z1 := hn1.size
  refine Ret.at (spec_l02Trim_c (h.ext hn1.ext)) ?_
  rintro v w2 ⟨hv, hw, ht⟩
  subst hv; subst hw
  rw [trimL_eq (digs_limbs _), val_digs, Int.toNat_natCast] at ht ⊢
  refine ⟨_, _, _, rfl, ?_⟩
  refine Ret.at (spec_l02Trim_c (k.ext hn1.ext)) ?_
  rintro v w3 ⟨hv, hw, kt⟩
  subst hv; subst hw
  rw [trimL_eq (digs_limbs _), val_digs, Int.toNat_natCast] at kt ⊢
  have hd0 := digs_pos_len.2 (show d ≠ 0 by omega)
  refine ⟨_, _, _, rfl, ifD (fun hh => absurd hh (by omega)) (fun _ => ?_)⟩
  refine Ret.at (spec_l05Gcd_c ht kt (by omega) (by omega)) ?_
  rintro v w4 ⟨p4, n4, c4, hv, G, y4⟩
  subst hv
  have gpos : 0 < Nat.gcd n.natAbs d := gcd_pos_right hd
  have lg := G.1
  have hg3 : 0 < n4 := by have := digs_pos_len.2 (show Nat.gcd n.natAbs d ≠ 0 by omega); omega
  have hg4 : n4 <= 1000 := by have := digs_mono_len (Nat.le_of_dvd hd (Nat.gcd_dvd_right n.natAbs d)); omega
  refine ⟨_, _, _, rfl, ?_⟩
  refine Ret.at (spec_l03Div_c (ht.ext y4) G (digs_limbs _) (digs_canon _) hg3 (by omega) (by omega)) ?_
  rintro v w5 ⟨p5, n5, c5, p6, n6, c6, hv, i5, _, y5⟩
  subst hv
  rw [val_div] at i5
  refine ⟨_, _, _, _, _, _, rfl, ?_⟩
  refine Ret.at (spec_l03Div_c (kt.ext (y4.trans y5)) (G.ext y5) (digs_limbs _) (digs_canon _) hg3 (by omega) (by omega)) ?_
  rintro v w6 ⟨p7, n7, c7, p8, n8, c8, hv, i7, _, y6⟩
  subst hv
  rw [val_div] at i7
  have Y := (y4.trans y5).trans y6
  have q1 := hn1.blk.ext Y
  have X := hn1.ext.trans Y
  have lY := Y.le
  have l5 := i5.1; have l7 := i7.1
  have hok : redOk n d = (decide (n5 <= 18) && decide (n7 <= 18)) := by rw [redOk, l5, l7]
  have bad : redOk n d = false -> ∃ W', Stores P T_impl_Rat ⟨r, 0, none⟩ (.agg ⟨[.bool false, .slice none 0 0, .slice none 0 0]⟩) w6 W' /\ Loads P T_impl_Rat ⟨r, 0, none⟩ (.agg ⟨[.bool false, .slice none 0 0, .slice none 0 0]⟩) W' /\ Owns W' w.heap.size [.bool false, .slice none 0 0, .slice none 0 0] (redR n d) [] /\ Ext w W' := fun hno => by
    obtain ⟨W', st, ld, ow, xx, _, _⟩ := agg_end (t := T_impl_Rat) q1 X (by omega) (own_rat0 w6 (r + 1)) (by kernel_rfl) rfl (by omega) (by omega)
    exact ⟨W', st, ld, by rw [redR_no hno]; exact ow, xx⟩
  refine ⟨_, _, _, _, _, _, rfl, ifD (fun h4 => ifT ?_) (fun h4 => ifD (fun h6 => ?_) (fun h6 => ?_))⟩
  · have hno : redOk n d = false := by rw [hok, decide_eq_false (by omega)]; rfl
    obtain ⟨W', st, ld, ow, xx⟩ := bad hno
    exact ⟨W', st, _, _, _, _, _, _, _, ld, _, [], by rw [hno], ow, List.nodup_nil, xx⟩
  · have hno : redOk n d = false := by rw [hok, decide_eq_false (show ¬ n7 <= 18 by omega), Bool.and_false]
    obtain ⟨W', st, ld, ow, xx⟩ := bad hno
    exact ⟨W', st, _, _, _, _, _, _, _, ld, _, [], by rw [hno], ow, List.nodup_nil, xx⟩
  · have hyes : redOk n d = true := by rw [hok, decide_eq_true (show n5 <= 18 by omega), decide_eq_true (show n7 <= 18 by omega)]; rfl
    refine Ret.at (spec_l04Make_c (i5.ext y6) (digs_limbs _)) ?_
    rintro v w7 ⟨b7, p9, n9, c9, hv, hb7, o9, y7⟩
    subst hv
    rw [val_digs, Int.toNat_natCast] at hb7 o9
    have ecap : capL (digs (n.natAbs / Nat.gcd n.natAbs d)) = digs (n.natAbs / Nat.gcd n.natAbs d) := by unfold capL; rw [if_pos (by omega)]
    rw [ecap] at hb7 o9
    have ho : Owns w7 w6.heap.size [.bool b7, .slice p9 n9 c9] (enc (redN n d)) (p9.map (·.block)).toList := by
      have e : enc (redN n d) = mkS neg (digs (n.natAbs / Nat.gcd n.natAbs d)) := by
        by_cases hn : n = 0
        · subst hn
          rw [enc_redN]
          simp [mkS, digs_zero]
        · rw [enc_redN, hneg hn]
      rw [e]
      have := Owns.int2 (b := b7) o9
      rw [hb7] at this
      rw [hb7]
      exact this
    refine ⟨_, _, _, _, rfl, ?_⟩
    intro r8 w8 hn8
    obtain ⟨p10, c10, w10, ap10, o10, x10⟩ := append0 hn8.blk ((i7.ext y7).ext hn8.ext) (by omega)
    have e8 := hn8.r_eq; have z8 := hn8.size; have ly7 := y7.le; have ly6 := y6.le
    have y10 : Ext w8 w10 := x10
    have hr := own_rmk ((ho.ext hn8.ext).ext y10) (o10.mono (show w6.heap.size <= r8 by omega))
    obtain ⟨W', st, ld, ow, xx, _, _⟩ := agg_end (t := T_impl_Rat) (((q1.ext y7).ext hn8.ext).ext y10) (((X.trans y7).trans hn8.ext).trans y10) (by omega) hr (by kernel_rfl) rfl (by omega) (by omega)
    refine ⟨_, _, _, _, ap10, W', st, _, _, _, _, _, _, _, ld, _, _, by rw [hyes], by rw [redR_yes hyes]; exact ow, ?_, xx⟩
    exact nodup_append (nodup_opt p9) (nodup_opt p10) (m := w7.heap.size) (fun q hq => (ho.lt q hq).2) (fun q hq => by
      have := own_out o10 q (opt_mem hq)
      omega)
end Go.Proofs.YtfehpaekbbmkcaaGreatDoor
namespace Go.Proofs.YtfehpaekbbmkcaaGreatDoor
open Go Go.Proofs.YtfehpaekbbmkcaaGreatDoor.Sx
theorem rmk_open {w : World} {vs : List Value} {N : Int} {D : Nat} (h : Reps w vs (rmk N D)) (hok : ratOk (rmk N D) = true) :
    ∃ p1 n1 c1 p2 n2 c2, vs = [.bool (decide (N < 0)), .slice p1 n1 c1, .slice p2 n2 c2] /\ IntsR w p1 n1 c1 (digs N.natAbs) /\ IntsR w p2 n2 c2 (digs D) /\ n1 <= 18 /\ n2 <= 18 /\ Reps w [.bool (decide (N < 0)), .slice p1 n1 c1] (enc N) /\ 0 < D := by
  have := rat_parts h (rmk_code N D) hok
  have k := (ratOk_enc hok).2.1
  rw [ratNum_rmk, ratDen_rmk] at this
  rw [ratDen_rmk] at k
  obtain ⟨p1, n1, c1, p2, n2, c2, a, b, c, d, e, f⟩ := this
  exact ⟨p1, n1, c1, p2, n2, c2, a, b, c, d, e, f, k⟩
theorem mkS_of {b : Bool} {m : Nat} {z : Int} (hm : m = z.natAbs) (hb : z ≠ 0 -> b = decide (z < 0)) : mkS b (digs m) = enc z := by
  by_cases hz : z = 0
  · subst hz; subst hm; simp [mkS, enc, digs_zero]
  · rw [hb hz, hm]
    unfold mkS enc
    rw [isEmpty_digs]
    have : z.natAbs ≠ 0 := by omega
    simp [this]
theorem mul_sign {x y : Int} (h : x * y ≠ 0) : (!(decide (x < 0) == decide (y < 0))) = decide (x * y < 0) := by
  have hx : x ≠ 0 := fun e => h (by rw [e, Int.zero_mul])
  have hy : y ≠ 0 := fun e => h (by rw [e, Int.mul_zero])
  rcases Int.lt_or_gt_of_ne hx with h1 | h1 <;> rcases Int.lt_or_gt_of_ne hy with h2 | h2
  · have := Int.mul_pos_of_neg_of_neg h1 h2
    simp [h1, h2]; omega
  · have := Int.mul_neg_of_neg_of_pos h1 h2
    have h3 : ¬ y < 0 := by omega
    simp [h1, h3, this]
  · have := Int.mul_neg_of_pos_of_neg h1 h2
    have h3 : ¬ x < 0 := by omega
    simp [h2, h3, this]
  · have := Int.mul_pos h1 h2
    have h3 : ¬ x < 0 := by omega
    have h4 : ¬ y < 0 := by omega
    simp [h3, h4]; omega
theorem val_mul (m k : Nat) : (val (digs m) * val (digs k)).toNat = m * k := by rw [val_digs, val_digs, <- Int.natCast_mul, Int.toNat_natCast]
theorem natCast_enc (k : Nat) : enc (k : Int) = [.bool false, .ints (digs k)] := enc_nat k
theorem own_int {W : World} {B : Nat} {b : Bool} {p : Option Addr} {n c m : Nat} {z : Int} (h : Own W B T_int 1 p n c ((digs m).map (Value.int .i64))) (hm : m = z.natAbs) (hb : z ≠ 0 -> b = decide (z < 0)) :
    Owns W B [.bool (b && !(digs m).isEmpty), .slice p n c] (enc z) (p.map (·.block)).toList := by
  rw [<- mkS_of hm hb]
  exact Owns.int2 h
def FlSt (o : Obj) (w0 : World) (ss : List (Option Nat)) (w : World) : Prop := Ext w0 w /\ (ss = [none] ∨ ∃ r, ss = [some r] /\ w0.heap.size <= r /\ w.heap[r]? = some o)
theorem FlSt.start {o : Obj} (w0 : World) : FlSt o w0 [none] w0 := ⟨Ext.refl _, .inl rfl⟩
theorem FlSt.ext {o : Obj} {w0 w w' : World} {ss : List (Option Nat)} (h : FlSt o w0 ss w) (y : Ext w w') : FlSt o w0 ss w' := by
  refine ⟨h.1.trans y, ?_⟩
  rcases h.2 with h2 | ⟨r, h2, h3, h4⟩
  · exact .inl h2
  · exact .inr ⟨r, h2, h3, (y.block r (Array.getElem?_eq_some_iff.1 h4).1).trans h4⟩
theorem FlSt.step {o : Obj} {w0 w w' : World} {ss ss' : List (Option Nat)} (h : FlSt o w0 ss w) (f : Fl [o] ss w ss' w') : FlSt o w0 ss' w' := by
  refine ⟨h.1.trans f.ext, ?_⟩
  have hl := f.len
  rcases h.2 with h2 | ⟨r, h2, h3, h4⟩
  · subst h2
    match ss', hl, f with
    | [none], _, _ => exact .inl rfl
    | [some r], _, f =>
      obtain ⟨a, b⟩ := f.got (k := 0) rfl rfl rfl
      exact .inr ⟨r, rfl, Nat.le_trans h.1.le a, b⟩
    | [], hl, _ => simp at hl
    | _ :: _ :: _, hl, _ => simp at hl
  · subst h2
    have hk := f.keeps (k := 0) (r := r) rfl
    match ss', hl, hk with
    | [x], _, hk =>
      simp at hk
      subst hk
      exact .inr ⟨r, rfl, h3, (f.ext.block r (Array.getElem?_eq_some_iff.1 h4).1).trans h4⟩
    | [], hl, _ => simp at hl
    | _ :: _ :: _, hl, _ => simp at hl
theorem FlSt.get {o : Obj} {w0 w : World} {ss : List (Option Nat)} {r : Nat} (h : FlSt o w0 ss w) (hr : ss[0]? = some (some r)) : w0.heap.size <= r /\ w.heap[r]? = some o := by
  rcases h.2 with h2 | ⟨r', h2, h3, h4⟩
  · subst h2; simp at hr
  · subst h2
    simp at hr
    subst hr
    exact ⟨h3, h4⟩
theorem impl_ratsOk_c {w : World} {xs ys : List Value} {N1 N2 : Int} {D1 D2 : Nat} (h : Reps w xs (rmk N1 D1)) (g : Reps w ys (rmk N2 D2)) (hok : ratOk (rmk N1 D1) = true) (gok : ratOk (rmk N2 D2) = true) :
    Ret P n_impl_ratsOk [.agg ⟨xs⟩, .agg ⟨ys⟩] w fun v w' => v = .bool true /\ Ext w w' := by
  have hr := h; have gr := g
  obtain ⟨p1, n1, c1, q1, m1, d1, rfl, i1, i2, _, _, he, hd1⟩ := rmk_open h hok
  obtain ⟨p2, n2, c2, q2, m2, d2, rfl, j1, j2, _, _, ke, hd2⟩ := rmk_open g gok
  refine impl_ratsOk_ret ?_
  unfold impl_ratsOk
  intro r w1 hn1 r1 w2 hn2
  have X := hn1.ext.trans hn2.ext
  refine ⟨_, _, _, _, _, _, _, (hn1.blk.ext hn2.ext).loadA0 (by kernel_rfl), ?_⟩
  refine Ret.at (impl_RatOk_c (hr.ext X) (rmk_code _ _)) ?_
  rintro v w3 ⟨hv, y3⟩
  subst hv
  rw [hok]
  refine ⟨_, rfl, ifT ⟨_, _, _, _, _, _, _, (hn2.blk.ext y3).loadA0 (by kernel_rfl), ?_⟩⟩
  refine Ret.at (impl_RatOk_c (gr.ext (X.trans y3)) (rmk_code _ _)) ?_
  rintro v w4 ⟨hv, y4⟩
  subst hv
  rw [gok]
  exact ⟨_, rfl, rfl, (X.trans y3).trans y4⟩
theorem impl_intMul_s {w : World} {xs ys : List Value} {x y : Int} (h : Reps w xs (enc x)) (g : Reps w ys (enc y)) (hx : (digs x.natAbs).length <= 100) (hy : (digs y.natAbs).length <= 100) :
    Ret P n_impl_intMul [.agg ⟨xs⟩, .agg ⟨ys⟩] w fun v w' => ∃ vs f, v = .agg ⟨vs⟩ /\ Owns w' w.heap.size vs (enc (x * y)) f /\ f.Nodup /\ Ext w w' := by
  obtain ⟨a0, ap, an, ac, az, rfl, hd, ha⟩ := open_Signed h (enc_code _)
  simp only [enc, List.cons.injEq, D0.bool.injEq, D0.ints.injEq, and_true] at hd
  obtain ⟨rfl, rfl⟩ := hd
  obtain ⟨b0, bp, bn, bc, bz, rfl, hd, hb⟩ := open_Signed g (enc_code _)
  simp only [enc, List.cons.injEq, D0.bool.injEq, D0.ints.injEq, and_true] at hd
  obtain ⟨rfl, rfl⟩ := hd
  have la := ha.1; have lb := hb.1
  refine impl_intMul_ret ?_
  unfold impl_intMul
  intro r w1 hn1 r1 w2 hn2 r2 w3 hn3
  have e1 := hn1.r_eq; have e2 := hn2.r_eq; have e3 := hn3.r_eq; have z1 := hn1.size; have z2 := hn2.size; have z3 := hn3.size
  have D := Ext.drew w3
  have X := ((hn1.ext.trans hn2.ext).trans hn3.ext).trans D
  have q0 := ((hn1.blk.ext hn2.ext).ext hn3.ext).ext D
  have q1 := (hn2.blk.ext hn3.ext).ext D
  have q2 := hn3.blk.ext D
  have lD := D.le
  refine ⟨_, fun W hW => (q0.ext hW).loadAt 0 rfl (by kernel_rfl) rfl, _, fun W hW => (q1.ext hW).loadAt 0 rfl (by kernel_rfl) rfl, _, _, _, fun W hW => (q0.ext hW).loadAt 1 rfl (by kernel_rfl) rfl, _, _, _, fun W hW => (q1.ext hW).loadAt 1 rfl (by kernel_rfl) rfl, ?_⟩
  refine Ret.at (impl_natMul_c (ha.ext X) (hb.ext X) (digs_limbs _) (digs_limbs _) (by omega) (by omega)) ?_
  rintro v w4 ⟨p', n', c', hv, ho, y4⟩
  subst hv
  rw [val_mul] at ho
  refine ⟨_, _, _, rfl, y4, ?_⟩
  refine Ret.at (impl_signed_c (neg := !(decide (x < 0) == decide (y < 0))) ho.ints.1) ?_
  rintro v w5 ⟨hv, y5⟩
  subst hv
  obtain ⟨W', st, ld, ow, xx, _, _⟩ := agg_end (t := T_impl_Signed) ((q2.ext y4).ext y5) ((X.trans y4).trans y5) (by omega) (own_int (ho.ext y5) (z := x * y) (by rw [Int.natAbs_mul]) mul_sign) (by kernel_rfl) rfl (by omega) (by omega)
  exact ⟨_, _, _, _, rfl, W', st, _, _, _, _, ld, _, _, rfl, ow, nodup_opt p', xx⟩
theorem impl_RatMul_n {w : World} {xs ys : List Value} {N1 N2 : Int} {D1 D2 : Nat} (h : Reps w xs (rmk N1 D1)) (g : Reps w ys (rmk N2 D2)) (hok : ratOk (rmk N1 D1) = true) (gok : ratOk (rmk N2 D2) = true) :
    Ret P n_impl_RatMul [.agg ⟨xs⟩, .agg ⟨ys⟩] w fun v w' => ∃ vs f, v = .tuple #[.agg ⟨vs⟩, .bool (redOk (N1 * N2) (D1 * D2))] /\ Owns w' w.heap.size vs (redR (N1 * N2) (D1 * D2)) f /\ f.Nodup /\ Ext w w' := by
  have hr := h; have gr := g
  obtain ⟨p1, n1, c1, q1, m1, d1, rfl, i1, i2, li1, li2, he, hd1⟩ := rmk_open h hok
  obtain ⟨p2, n2, c2, q2, m2, d2, rfl, j1, j2, lj1, lj2, ke, hd2⟩ := rmk_open g gok
  have ei1 := i1.1; have ei2 := i2.1; have ej1 := j1.1; have ej2 := j2.1
  have pN := prod_len (x := N1.natAbs) (y := N2.natAbs) (i := 18) (j := 18) (by omega) (by omega)
  have pD := prod_len (x := D1) (y := D2) (i := 18) (j := 18) (by omega) (by omega)
  refine impl_RatMul_ret ?_
  unfold impl_RatMul
  intro r w1 hn1 r1 w2 hn2 r2 w3 hn3
  have e1 := hn1.r_eq; have e2 := hn2.r_eq; have e3 := hn3.r_eq; have z1 := hn1.size; have z2 := hn2.size; have z3 := hn3.size
  have X := (hn1.ext.trans hn2.ext).trans hn3.ext
  have b0 := (hn1.blk.ext hn2.ext).ext hn3.ext; have b1 := hn2.blk.ext hn3.ext; have b2 := hn3.blk
  refine ⟨_, _, _, _, _, _, _, b0.loadA0 (by kernel_rfl), _, _, _, _, _, _, _, b1.loadA0 (by kernel_rfl), ?_⟩
  refine Ret.at (impl_ratsOk_c (hr.ext X) (gr.ext X) hok gok) ?_
  rintro v w4 ⟨hv, y4⟩
  subst hv
  refine ⟨_, rfl, ifN (fun hh => absurd hh (by simp)) (fun _ => ?_)⟩
  have D := Ext.drew w4
  have Y := y4.trans D
  have X4 := X.trans Y
  have lY := Y.le
  have b0 := b0.ext Y; have b1 := b1.ext Y; have b2 := b2.ext Y
  refine ⟨_, _, _, _, fun W hW => (b0.ext hW).loadAAt 0 [.bool (decide (N1 < 0)), .slice p1 n1 c1] rfl (by kernel_rfl) rfl, _, _, _, _, fun W hW => (b1.ext hW).loadAAt 0 [.bool (decide (N2 < 0)), .slice p2 n2 c2] rfl (by kernel_rfl) rfl, ?_⟩
  refine Ret.at (impl_intMul_s (he.ext X4) (ke.ext X4) (by omega) (by omega)) ?_
  rintro v w5 ⟨vs5, f5, hv, ho5, _, y5⟩
  subst hv
  obtain ⟨s0, sp, sn, sc, sz, rfl, _, _⟩ := open_Signed ho5.reps (enc_code _)
  refine ⟨_, _, _, _, rfl, y5, _, _, _, fun W hW => (b0.ext hW).loadAt 2 rfl (by kernel_rfl) rfl, _, _, _, fun W hW => (b1.ext hW).loadAt 2 rfl (by kernel_rfl) rfl, ?_⟩
  refine Ret.at (impl_natMul_c (i2.ext (X4.trans y5)) (j2.ext (X4.trans y5)) (digs_limbs _) (digs_limbs _) (by omega) (by omega)) ?_
  rintro v w6 ⟨p6, n6, c6, hv, o6, y6⟩
  subst hv
  rw [val_mul] at o6
  have l6 := o6.ints.1
  have l5 := y5.le; have l6' := y6.le
  refine ⟨_, _, _, rfl, ?_⟩
  refine Ret.at (impl_reduce_c (ho5.reps.ext y6) o6.ints (Nat.mul_pos hd1 hd2) (by rw [Int.natAbs_mul]; omega) (by omega)) ?_
  rintro v w99 ⟨vs9, f9, hv, ho9, nd9, y99⟩
  subst hv
  obtain ⟨zb, zp, zn, zc, zz, zp2, zn2, zc2, zz2, rfl, _, _, _⟩ := open_Rat ho9.reps (redR_code _ _)
  obtain ⟨W', st', ld', ow', xx', _, _⟩ := agg_end (t := T_impl_Rat) (((b2.ext y5).ext y6).ext y99) (((X4.trans y5).trans y6).trans y99) (by omega) ho9 (by kernel_rfl) rfl (by omega) (by omega)
  exact ⟨_, _, _, _, _, _, _, _, rfl, W', st', _, _, _, _, _, _, _, ld', _, f9, rfl, ow', nd9, xx'⟩
  
theorem spec_RatMul_n {w : World} {xs ys : List Value} {N1 N2 : Int} {D1 D2 : Nat} (h : Reps w xs (rmk N1 D1)) (g : Reps w ys (rmk N2 D2)) (hok : ratOk (rmk N1 D1) = true) (gok : ratOk (rmk N2 D2) = true) :
    Ret P n_spec_RatMul [.agg ⟨xs⟩, .agg ⟨ys⟩] w fun v w' => ∃ vs f, v = .tuple #[.agg ⟨vs⟩, .bool (redOk (N1 * N2) (D1 * D2))] /\ Owns w' w.heap.size vs (redR (N1 * N2) (D1 * D2)) f /\ f.Nodup /\ Ext w w' := by
  have hr := h; have gr := g
  obtain ⟨p1, n1, c1, q1, m1, d1, rfl, i1, i2, li1, li2, he, hd1⟩ := rmk_open h hok
  obtain ⟨p2, n2, c2, q2, m2, d2, rfl, j1, j2, lj1, lj2, ke, hd2⟩ := rmk_open g gok
  have ei1 := i1.1; have ei2 := i2.1; have ej1 := j1.1; have ej2 := j2.1
  have pN := prod_len (x := N1.natAbs) (y := N2.natAbs) (i := 18) (j := 18) (by omega) (by omega)
  have pD := prod_len (x := D1) (y := D2) (i := 18) (j := 18) (by omega) (by omega)
  refine spec_RatMul_ret ?_
  unfold spec_RatMul
  intro r w1 hn1 r1 w2 hn2 r2 w3 hn3
  have e1 := hn1.r_eq; have e2 := hn2.r_eq; have e3 := hn3.r_eq; have z1 := hn1.size; have z2 := hn2.size; have z3 := hn3.size
  have X := (hn1.ext.trans hn2.ext).trans hn3.ext
  have b0 := (hn1.blk.ext hn2.ext).ext hn3.ext; have b1 := hn2.blk.ext hn3.ext; have b2 := hn3.blk
  refine ⟨_, _, _, _, _, _, _, b0.loadA0 (by kernel_rfl), ?_⟩
  refine Ret.at (spec_RatOk_c (hr.ext X) (rmk_code _ _)) ?_
  rintro v w5 ⟨hv, y5⟩
  subst hv
  rw [hok]
  refine ⟨_, rfl, ifN (fun hh => absurd hh (by simp)) (fun _ => ⟨_, _, _, _, _, _, _, (b1.ext y5).loadA0 (by kernel_rfl), ?_⟩)⟩
  refine Ret.at (spec_RatOk_c (gr.ext (X.trans y5)) (rmk_code _ _)) ?_
  rintro v w4 ⟨hv, y4⟩
  subst hv
  rw [gok]
  refine ⟨_, rfl, ifN (fun hh => absurd hh (by simp)) (fun _ => ?_)⟩
  unfold spec_RatMul_j0
  have D := Ext.drew w4
  have Y := (y5.trans y4).trans D
  have X4 := X.trans Y
  have lY := Y.le
  have b0 := b0.ext Y; have b1 := b1.ext Y; have b2 := b2.ext Y
  refine ⟨_, fun W hW => (b0.ext hW).loadAt 0 rfl (by kernel_rfl) rfl, _, fun W hW => (b1.ext hW).loadAt 0 rfl (by kernel_rfl) rfl, _, _, _, fun W hW => (b0.ext hW).loadAt 1 rfl (by kernel_rfl) rfl, _, _, _, fun W hW => (b1.ext hW).loadAt 1 rfl (by kernel_rfl) rfl, ?_⟩
  refine Ret.at (spec_l02Mul_c (i1.ext X4) (j1.ext X4) (digs_limbs _) (digs_limbs _) (by omega) (by omega)) ?_
  rintro v w6 ⟨p6, n6, c6, hv, o6, y6⟩
  subst hv
  rw [val_mul, <- Int.natAbs_mul] at o6
  rw [<- Int.natAbs_mul] at pN
  have l6 := o6.ints.1
  refine ⟨_, _, _, rfl, y6, _, _, _, fun W hW => (b0.ext hW).loadAt 2 rfl (by kernel_rfl) rfl, _, _, _, fun W hW => (b1.ext hW).loadAt 2 rfl (by kernel_rfl) rfl, ?_⟩
  refine Ret.at (spec_l02Mul_c (i2.ext (X4.trans y6)) (j2.ext (X4.trans y6)) (digs_limbs _) (digs_limbs _) (by omega) (by omega)) ?_
  rintro v w7 ⟨p7, n7, c7, hv, o7, y7⟩
  subst hv
  rw [val_mul] at o7
  have l7 := o7.ints.1
  have l6' := y6.le; have l7' := y7.le
  refine ⟨_, _, _, rfl, y7, ?_⟩
  refine Ret.at (spec_l05Low_c (n := N1 * N2) (o6.ints.ext y7) o7.ints mul_sign (Nat.mul_pos hd1 hd2) (by omega) (by omega)) ?_
  rintro v w99 ⟨vs9, f9, hv, ho9, nd9, y99⟩
  subst hv
  obtain ⟨zb, zp, zn, zc, zz, zp2, zn2, zc2, zz2, rfl, _, _, _⟩ := open_Rat ho9.reps (redR_code _ _)
  obtain ⟨W', st', ld', ow', xx', _, _⟩ := agg_end (t := T_impl_Rat) (((b2.ext y6).ext y7).ext y99) (((X4.trans y6).trans y7).trans y99) (by omega) ho9 (by kernel_rfl) rfl (by omega) (by omega)
  exact ⟨_, _, _, _, _, _, _, _, rfl, W', st', _, _, _, _, _, _, _, ld', _, f9, rfl, ow', nd9, xx'⟩
  
theorem impl_RatMake_n {w : World} {xs ys : List Value} {x : Int} {k : Nat} (h : Reps w xs (enc x)) (g : Reps w ys (enc (k : Int))) (hx : (digs x.natAbs).length <= 50) (hk : (digs k).length <= 50) (hk0 : 0 < k) :
    Ret P n_impl_RatMake [.agg ⟨xs⟩, .agg ⟨ys⟩] w fun v w' => ∃ vs f, v = .tuple #[.agg ⟨vs⟩, .bool (redOk (x) (k))] /\ Owns w' w.heap.size vs (redR (x) (k)) f /\ f.Nodup /\ Ext w w' := by
  have hr := h; have gr := g
  obtain ⟨a0, p1, n1, c1, az, rfl, hd, i1⟩ := open_Signed h (enc_code _)
  simp only [enc, List.cons.injEq, D0.bool.injEq, D0.ints.injEq, and_true] at hd
  obtain ⟨rfl, rfl⟩ := hd
  rw [natCast_enc] at g
  obtain ⟨b0, p2, n2, c2, bz, rfl, hd, j1⟩ := open_Signed g rfl
  simp only [List.cons.injEq, D0.bool.injEq, D0.ints.injEq, and_true] at hd
  obtain ⟨rfl, rfl⟩ := hd
  have ei1 := i1.1; have ej1 := j1.1
  have ok1 : intOk (enc x) = true := enc_ok hx
  have ok2 : intOk (enc (k : Int)) = true := enc_ok (by rw [Int.natAbs_natCast]; exact hk)
  have hk1 := digs_pos_len.2 (show k ≠ 0 by omega)
  have sg : x ≠ 0 -> (!(decide (x < 0) == false)) = decide (x < 0) := fun _ => by cases decide (x < 0) <;> rfl
  refine impl_RatMake_ret ?_
  unfold impl_RatMake
  intro r w1 hn1 r1 w2 hn2 r2 w3 hn3
  have e1 := hn1.r_eq; have e2 := hn2.r_eq; have e3 := hn3.r_eq; have z1 := hn1.size; have z2 := hn2.size; have z3 := hn3.size
  have X := (hn1.ext.trans hn2.ext).trans hn3.ext
  have b0 := (hn1.blk.ext hn2.ext).ext hn3.ext; have b1 := hn2.blk.ext hn3.ext; have b2 := hn3.blk
  refine ⟨_, _, _, _, b0.loadA0 (by kernel_rfl), _, _, _, _, b1.loadA0 (by kernel_rfl), ?_⟩
  refine Ret.at (impl_intsOk_c (hr.ext X) (gr.ext X) (enc_code _) (enc_code _)) ?_
  rintro v w4 ⟨hv, y4⟩
  subst hv
  rw [ok1, ok2]
  refine ⟨_, rfl, ifN (fun hh => absurd hh (by simp)) (fun _ => ⟨_, _, _, (b1.ext y4).loadAt 1 rfl (by kernel_rfl) rfl, ifD (fun hh => absurd hh (by omega)) (fun _ => ?_)⟩)⟩
  unfold impl_RatMake_j0
  have D := Ext.drew w4
  have Y := y4.trans D
  have X4 := X.trans Y
  have lY := Y.le
  have b0 := b0.ext Y; have b1 := b1.ext Y; have b2 := b2.ext Y
  refine ⟨_, fun W hW => (b0.ext hW).loadAt 0 rfl (by kernel_rfl) rfl, _, fun W hW => (b1.ext hW).loadAt 0 rfl (by kernel_rfl) rfl, _, _, _, fun W hW => (b0.ext hW).loadAt 1 rfl (by kernel_rfl) rfl, ?_⟩
  refine Ret.at (impl_signed_c (neg := !(decide (x < 0) == false)) (i1.ext X4).1) ?_
  rintro v w5 ⟨hv, y5⟩
  subst hv
  have l5 := y5.le
  refine ⟨_, _, _, _, rfl, y5, _, _, _, fun W hW => (b1.ext hW).loadAt 1 rfl (by kernel_rfl) rfl, ?_⟩
  have hs : Reps w5 [.bool ((!(decide (x < 0) == false)) && !(digs x.natAbs).isEmpty), .slice p1 n1 c1] (enc x) := by
    rw [<- mkS_of (b := !(decide (x < 0) == false)) rfl sg]
    exact ⟨rfl, ⟨_, _, _, rfl, i1.ext (X4.trans y5)⟩, trivial⟩
  refine Ret.at (impl_reduce_c hs (j1.ext (X4.trans y5)) hk0 (by omega) (by omega)) ?_
  rintro v w99 ⟨vs9, f9, hv, ho9, nd9, y99⟩
  subst hv
  obtain ⟨zb, zp, zn, zc, zz, zp2, zn2, zc2, zz2, rfl, _, _, _⟩ := open_Rat ho9.reps (redR_code _ _)
  obtain ⟨W', st', ld', ow', xx', _, _⟩ := agg_end (t := T_impl_Rat) ((b2.ext y5).ext y99) ((X4.trans y5).trans y99) (by omega) ho9 (by kernel_rfl) rfl (by omega) (by omega)
  exact ⟨_, _, _, _, _, _, _, _, rfl, W', st', _, _, _, _, _, _, _, ld', _, f9, rfl, ow', nd9, xx'⟩
  
theorem spec_RatMake_n {w : World} {xs ys : List Value} {x : Int} {k : Nat} (h : Reps w xs (enc x)) (g : Reps w ys (enc (k : Int))) (hx : (digs x.natAbs).length <= 50) (hk : (digs k).length <= 50) (hk0 : 0 < k) :
    Ret P n_spec_RatMake [.agg ⟨xs⟩, .agg ⟨ys⟩] w fun v w' => ∃ vs f, v = .tuple #[.agg ⟨vs⟩, .bool (redOk (x) (k))] /\ Owns w' w.heap.size vs (redR (x) (k)) f /\ f.Nodup /\ Ext w w' := by
  have hr := h; have gr := g
  obtain ⟨a0, p1, n1, c1, az, rfl, hd, i1⟩ := open_Signed h (enc_code _)
  simp only [enc, List.cons.injEq, D0.bool.injEq, D0.ints.injEq, and_true] at hd
  obtain ⟨rfl, rfl⟩ := hd
  rw [natCast_enc] at g
  obtain ⟨b0, p2, n2, c2, bz, rfl, hd, j1⟩ := open_Signed g rfl
  simp only [List.cons.injEq, D0.bool.injEq, D0.ints.injEq, and_true] at hd
  obtain ⟨rfl, rfl⟩ := hd
  have ei1 := i1.1; have ej1 := j1.1
  have ok1 : intOk (enc x) = true := enc_ok hx
  have ok2 : intOk (enc (k : Int)) = true := enc_ok (by rw [Int.natAbs_natCast]; exact hk)
  have hk1 := digs_pos_len.2 (show k ≠ 0 by omega)
  have sg : x ≠ 0 -> (!(decide (x < 0) == false)) = decide (x < 0) := fun _ => by cases decide (x < 0) <;> rfl
  refine spec_RatMake_ret ?_
  unfold spec_RatMake
  intro r w1 hn1 r1 w2 hn2 r2 w3 hn3
  have e1 := hn1.r_eq; have e2 := hn2.r_eq; have e3 := hn3.r_eq; have z1 := hn1.size; have z2 := hn2.size; have z3 := hn3.size
  have X := (hn1.ext.trans hn2.ext).trans hn3.ext
  have b0 := (hn1.blk.ext hn2.ext).ext hn3.ext; have b1 := hn2.blk.ext hn3.ext; have b2 := hn3.blk
  refine ⟨_, _, _, _, b0.loadA0 (by kernel_rfl), ?_⟩
  refine Ret.at (spec_IntOk_c (hr.ext X) (enc_code _)) ?_
  rintro v w4 ⟨hv, y4⟩
  subst hv
  rw [ok1]
  refine ⟨_, rfl, ifN (fun hh => absurd hh (by simp)) (fun _ => ⟨_, _, _, _, (b1.ext y4).loadA0 (by kernel_rfl), ?_⟩)⟩
  refine Ret.at (spec_IntOk_c (gr.ext (X.trans y4)) (enc_code _)) ?_
  rintro v w5 ⟨hv, y5⟩
  subst hv
  rw [ok2]
  refine ⟨_, rfl, ifN (fun hh => absurd hh (by simp)) (fun _ => ?_)⟩
  unfold spec_RatMake_j0
  have Y := y4.trans y5
  have X4 := X.trans Y
  have lY := Y.le
  have b0 := b0.ext Y; have b1 := b1.ext Y; have b2 := b2.ext Y
  refine ⟨_, b0.loadAt 0 rfl (by kernel_rfl) rfl, _, b1.loadAt 0 rfl (by kernel_rfl) rfl, _, _, _, b0.loadAt 1 rfl (by kernel_rfl) rfl, _, _, _, b1.loadAt 1 rfl (by kernel_rfl) rfl, ?_⟩
  refine Ret.at (spec_l05Low_c (n := x) (i1.ext X4) (j1.ext X4) sg hk0 (by omega) (by omega)) ?_
  rintro v w99 ⟨vs9, f9, hv, ho9, nd9, y99⟩
  subst hv
  obtain ⟨zb, zp, zn, zc, zz, zp2, zn2, zc2, zz2, rfl, _, _, _⟩ := open_Rat ho9.reps (redR_code _ _)
  obtain ⟨W', st', ld', ow', xx', _, _⟩ := agg_end (t := T_impl_Rat) ((b2).ext y99) ((X4).trans y99) (by omega) ho9 (by kernel_rfl) rfl (by omega) (by omega)
  exact ⟨_, _, _, _, _, _, _, _, rfl, W', st', _, _, _, _, _, _, _, ld', _, f9, rfl, ow', nd9, xx'⟩
  
theorem impl_RatInt_n {w : World} {xs : List Value} {x : Int} (h : Reps w xs (enc x)) (hx : (digs x.natAbs).length <= 50) :
    Ret P n_impl_RatInt [.agg ⟨xs⟩] w fun v w' => ∃ vs f, v = .tuple #[.agg ⟨vs⟩, .bool (redOk (x) (1))] /\ Owns w' w.heap.size vs (redR (x) (1)) f /\ f.Nodup /\ Ext w w' := by
  have hr := h
  obtain ⟨a0, p1, n1, c1, az, rfl, hd, i1⟩ := open_Signed h (enc_code _)
  refine impl_RatInt_ret ?_
  unfold impl_RatInt
  intro r w1 hn1 r1 w2 hn2
  have e1 := hn1.r_eq; have e2 := hn2.r_eq; have z1 := hn1.size; have z2 := hn2.size
  have D := Ext.drew w2
  have lD := D.le
  have X := (hn1.ext.trans hn2.ext).trans D
  have b0 := (hn1.blk.ext hn2.ext).ext D; have b1 := hn2.blk.ext D
  refine ⟨_, _, _, _, fun W hW => (b0.ext hW).loadA0 (by kernel_rfl), ?_⟩
  refine Ret.at (impl_IntOf_c (n := 1) (by omega) (by omega)) ?_
  rintro v w3 ⟨vs3, f3, hv, ho3, _, y3⟩
  subst hv
  obtain ⟨s0, sp, sn, sc, sz, rfl, _, _⟩ := open_Signed ho3.reps (enc_code _)
  have l3 := y3.le
  refine ⟨_, _, _, _, rfl, y3, ?_⟩
  refine Ret.at (impl_RatMake_n (k := 1) (hr.ext (X.trans y3)) ho3.reps hx (by rw [digs_one]; decide) (by decide)) ?_
  rintro v w99 ⟨vs9, f9, hv, ho9, nd9, y99⟩
  subst hv
  obtain ⟨zb, zp, zn, zc, zz, zp2, zn2, zc2, zz2, rfl, _, _, _⟩ := open_Rat ho9.reps (redR_code _ _)
  obtain ⟨W', st', ld', ow', xx', _, _⟩ := agg_end (t := T_impl_Rat) ((b1.ext y3).ext y99) ((X.trans y3).trans y99) (by omega) ho9 (by kernel_rfl) rfl (by omega) (by omega)
  exact ⟨_, _, _, _, _, _, _, _, rfl, W', st', _, _, _, _, _, _, _, ld', _, f9, rfl, ow', nd9, xx'⟩
  
theorem spec_RatInt_n {w : World} {xs : List Value} {x : Int} (h : Reps w xs (enc x)) (hx : (digs x.natAbs).length <= 50) :
    Ret P n_spec_RatInt [.agg ⟨xs⟩] w fun v w' => ∃ vs f, v = .tuple #[.agg ⟨vs⟩, .bool (redOk (x) (1))] /\ Owns w' w.heap.size vs (redR (x) (1)) f /\ f.Nodup /\ Ext w w' := by
  have hr := h
  obtain ⟨a0, p1, n1, c1, az, rfl, hd, i1⟩ := open_Signed h (enc_code _)
  refine spec_RatInt_ret ?_
  unfold spec_RatInt
  intro r w1 hn1 r1 w2 hn2
  have e1 := hn1.r_eq; have e2 := hn2.r_eq; have z1 := hn1.size; have z2 := hn2.size
  have D := Ext.drew w2
  have lD := D.le
  have X := (hn1.ext.trans hn2.ext).trans D
  have b0 := (hn1.blk.ext hn2.ext).ext D; have b1 := hn2.blk.ext D
  refine ⟨_, _, _, _, fun W hW => (b0.ext hW).loadA0 (by kernel_rfl), ?_⟩
  refine Ret.at (spec_IntOf_c (n := 1) (by omega) (by omega)) ?_
  rintro v w3 ⟨vs3, f3, hv, ho3, _, y3⟩
  subst hv
  obtain ⟨s0, sp, sn, sc, sz, rfl, _, _⟩ := open_Signed ho3.reps (enc_code _)
  have l3 := y3.le
  refine ⟨_, _, _, _, rfl, y3, ?_⟩
  refine Ret.at (spec_RatMake_n (k := 1) (hr.ext (X.trans y3)) ho3.reps hx (by rw [digs_one]; decide) (by decide)) ?_
  rintro v w99 ⟨vs9, f9, hv, ho9, nd9, y99⟩
  subst hv
  obtain ⟨zb, zp, zn, zc, zz, zp2, zn2, zc2, zz2, rfl, _, _, _⟩ := open_Rat ho9.reps (redR_code _ _)
  obtain ⟨W', st', ld', ow', xx', _, _⟩ := agg_end (t := T_impl_Rat) ((b1.ext y3).ext y99) ((X.trans y3).trans y99) (by omega) ho9 (by kernel_rfl) rfl (by omega) (by omega)
  exact ⟨_, _, _, _, _, _, _, _, rfl, W', st', _, _, _, _, _, _, _, ld', _, f9, rfl, ow', nd9, xx'⟩
  
end Go.Proofs.YtfehpaekbbmkcaaGreatDoor
namespace Go.Proofs.YtfehpaekbbmkcaaGreatDoor
open Go Go.Proofs.YtfehpaekbbmkcaaGreatDoor.Sx
theorem impl_ratNeg_c {w : World} {xs : List Value} {dx : List D0} (h : Reps w xs dx) (hc : dx.map D0.code = [.bool, .ints, .ints]) (hok : ratOk dx = true) :
    Ret P n_impl_ratNeg [.agg ⟨xs⟩] w fun v w' => ∃ vs' f, v = .agg ⟨vs'⟩ /\ Owns w' w.heap.size vs' (rmk (-(ratNum dx)) (ratDen dx)) f /\ f.Nodup /\ Ext w w' := by
  have ok := (ratOk_enc hok).2
  obtain ⟨p1, n1, c1, p2, n2, c2, rfl, i1, i2, g1, g2, he⟩ := rat_parts h hc hok
  refine impl_ratNeg_ret ?_
  unfold impl_ratNeg
  intro r w1 hn1 r1 w2 hn2
  have D := Ext.drew w2
  have X := (hn1.ext.trans hn2.ext).trans D
  have k0 := hn1.blk.ext hn2.ext; have k1 := hn2.blk.ext D
  have e2 := hn2.r_eq; have s1 := hn1.size; have s2 := hn2.size; have lD := D.le
  refine ⟨_, _, _, _, fun W hW => (k0.ext (D.trans hW)).loadAAt 0 [.bool (decide (ratNum dx < 0)), .slice p1 n1 c1] rfl (by kernel_rfl) rfl, ?_⟩
  refine Ret.at (impl_intNeg_c (he.ext X) (by omega)) ?_
  rintro v w3 ⟨vs, f, hv, ho, nd, y3⟩
  subst hv
  obtain ⟨b0, bp, bn, bc, bz, rfl, hq, hbr⟩ := open_Signed ho.reps (enc_code _)
  refine ⟨_, _, _, _, rfl, y3, _, _, _, fun W hW => (k0.ext (D.trans hW)).loadAt 2 rfl (by kernel_rfl) rfl, ?_⟩
  refine Ret.at (impl_natCopy_c (i2.ext (X.trans y3)) (by omega)) ?_
  rintro v w4 ⟨p, c, hv, ho2, y4⟩
  subst hv
  have l3 := y3.le; have l4 := y4.le
  obtain ⟨w5, st, hb5, ch, sz⟩ := ((k1.ext y3).ext y4).storeA0 (P := P) (t := T_impl_Rat) (xs := [.bool b0, .slice bp bn bc, .slice p n2 c]) (by kernel_rfl) rfl (by simp [Value.oneCell'])
  have q1 := (ho.ext y4).chg1 ch (by omega)
  have q2 := (Owns.ints ho2).chg1 ch (by omega)
  refine ⟨_, _, _, rfl, w5, st, _, _, _, _, _, _, _, hb5.loadA0 (by kernel_rfl), _, f ++ (p.map (·.block)).toList, rfl, ?_, ?_, ((X.trans y3).trans y4).chg ch (by simp; omega)⟩
  · rw [rmk_enc]; exact Owns.append (q1.mono (by omega)) (q2.mono (by omega))
  exact nodup_append nd (nodup_opt p) (m := w3.heap.size) (fun k hk => (ho.lt k hk).2) (fun k hk => ((Owns.ints ho2).lt k hk).1)
theorem spec_RatNeg_c {w : World} {xs : List Value} {dx : List D0} (h : Reps w xs dx) (hc : dx.map D0.code = [.bool, .ints, .ints]) (hok : ratOk dx = true) :
    Ret P n_spec_RatNeg [.agg ⟨xs⟩] w fun v w' => ∃ vs' f, v = .tuple #[.agg ⟨vs'⟩, .bool true] /\ Owns w' w.heap.size vs' (rmk (-(ratNum dx)) (ratDen dx)) f /\ Ext w w' := by
  have ok := (ratOk_enc hok).2
  have hr := h
  obtain ⟨p1, n1, c1, p2, n2, c2, rfl, i1, i2, g1, g2, he⟩ := rat_parts h hc hok
  refine spec_RatNeg_ret ?_
  unfold spec_RatNeg
  intro r w1 hn1 r1 w2 hn2
  have X2 := hn1.ext.trans hn2.ext
  refine ⟨_, _, _, _, _, _, _, (hn1.blk.ext hn2.ext).loadA0 (by kernel_rfl), ?_⟩
  refine Ret.at (spec_RatOk_c (hr.ext X2) hc) ?_
  rintro v w3 ⟨hv, y3⟩
  subst hv
  refine ⟨_, rfl, ifN (fun e => by rw [hok] at e; cases e) (fun _ => ?_)⟩
  have D := Ext.drew w3
  have X := (X2.trans y3).trans D
  have k0 := ((hn1.blk.ext hn2.ext).ext y3).ext D; have k1 := (hn2.blk.ext y3).ext D
  have e2 := hn2.r_eq; have s1 := hn1.size; have s2 := hn2.size; have lD := D.le; have ly3 := y3.le
  refine ⟨_, _, _, _, fun W hW => (k0.ext hW).loadAAt 0 [.bool (decide (ratNum dx < 0)), .slice p1 n1 c1] rfl (by kernel_rfl) rfl, ?_⟩
  intro ss w4 f1
  have hok' : intOk (enc (ratNum dx)) = true := by
    have := icap_ok (ratNum dx)
    rwa [icap_fit (by omega)] at this
  refine Ret.at (spec_IntNeg_c (he.ext (X.trans f1.ext)) hok') ?_
  rintro v w5 ⟨vs, f, hv, ho, nd, y5⟩
  subst hv
  have ho' := ho
  obtain ⟨b0, bp, bn, bc, bz, rfl, hq, hbr⟩ := open_Signed ho.reps (enc_code _)
  refine ⟨_, _, _, _, rfl, y5, _, _, _, fun W hW => (k0.ext hW).loadAt 2 rfl (by kernel_rfl) rfl, ?_⟩
  intro ss1 w6 r3 f2 g3
  have Y := (f1.ext.trans y5).trans f2.ext
  have hb3 : w3.drew.heap.size <= r3 /\ Blk w6 r3 T_int [] := by
    have len0 := f1.len
    cases hs : ss[0]? with
    | none =>
      rw [List.getElem?_eq_none_iff, len0] at hs
      simp at hs
    | some v =>
      cases v with
      | some q =>
        obtain ⟨b, hq⟩ := f1.got (k := 0) rfl rfl hs
        have e := (f2.keeps hs).symm.trans g3
        have e : q = r3 := by simpa using e
        rw [e] at b hq
        exact ⟨b, (Blk.ext (show Blk w4 r3 T_int [] from hq) y5).ext f2.ext⟩
      | none =>
        obtain ⟨b, hq⟩ := f2.got (k := 0) hs rfl g3
        exact ⟨Nat.le_trans ((f1.ext.trans y5).le) b, hq⟩
  obtain ⟨p7, c7, w7, a7, o7, y7⟩ := append0 hb3.2 (i2.ext (X.trans Y)) (by omega)
  have Z := Y.trans y7
  have lZ := f1.ext.le
  obtain ⟨w8, st, hb8, ch, sz⟩ := (k1.ext Z).storeA0 (P := P) (t := T_impl_Rat) (xs := [.bool b0, .slice bp bn bc, .slice p7 n2 c7]) (by kernel_rfl) rfl (by simp [Value.oneCell'])
  have q1 := ((ho'.ext f2.ext).ext y7).chg1 ch (by omega)
  have q2 := (Owns.ints (o7.mono hb3.1)).chg1 ch (by omega)
  refine ⟨_, _, _, _, a7, w8, st, _, _, _, _, _, _, _, hb8.loadA0 (by kernel_rfl), _, f ++ (p7.map (·.block)).toList, rfl, ?_, (X.trans Z).chg ch (by simp; omega)⟩
  rw [rmk_enc]; exact Owns.append (q1.mono (by omega)) (q2.mono (by omega))
end Go.Proofs.YtfehpaekbbmkcaaGreatDoor
namespace Go.Proofs.YtfehpaekbbmkcaaGreatDoor
open Go Go.Proofs.YtfehpaekbbmkcaaGreatDoor.Sx
theorem lt_of_len {x i : Nat} (h : (digs x).length <= i) : x < 1000000000 ^ i := by
  have h1 := val_lt (digs_limbs x)
  rw [val_digs] at h1
  have : ((x : Nat) : Int) < ((1000000000 ^ (digs x).length : Nat) : Int) := by simpa using h1
  exact Nat.lt_of_lt_of_le (Int.ofNat_lt.1 this) (Nat.pow_le_pow_right (by decide) h)
theorem sum_len {x y : Int} {i : Nat} (hx : (digs x.natAbs).length <= i) (hy : (digs y.natAbs).length <= i) : (digs (x + y).natAbs).length <= i + 1 := by
  apply digs_len
  have h1 := lt_of_len hx; have h2 := lt_of_len hy
  have h3 : (x + y).natAbs <= x.natAbs + y.natAbs := Int.natAbs_add_le x y
  rw [Nat.pow_succ]
  omega
theorem ratOk_neg {N : Int} {D : Nat} (h : ratOk (rmk N D) = true) : ratOk (rmk (-N) D) = true := by
  obtain ⟨_, h1, h2, h3, h4⟩ := ratOk_enc h
  rw [ratNum_rmk] at h2 h3
  rw [ratDen_rmk] at h1 h2 h4
  exact ratOk_rmk h1 (by rw [Int.natAbs_neg]; exact h2) (by rw [Int.natAbs_neg]; exact h3) h4
theorem cross_len {N : Int} {E : Nat} (hN : (digs N.natAbs).length <= 18) (hE : (digs E).length <= 18) : (digs (N * (E : Int)).natAbs).length <= 36 := by
  rw [Int.natAbs_mul, Int.natAbs_natCast]
  exact prod_len hN hE
theorem IntsR.store2 {w w' : World} {r : Nat} {e : TypeId} {b : Bool} {q : Option Addr} {m d : Nat} {p : Option Addr} {n c : Nat} {z : List Int} (hb : Blk w r e [.bool b, .slice q m d]) (h : IntsR w p n c z) (ch : Chg [r] w w') : IntsR w' p n c z := by
  refine ⟨h.1, h.2.1, h.2.2.1, fun hn => ?_⟩
  obtain ⟨k, off, hp, hs⟩ := h.2.2.2 hn
  refine ⟨k, off, hp, hs.chg ch ?_⟩
  intro hm
  simp at hm
  subst hm
  have hl := h.1
  have h1 := hs 0 (.int .i64 (z[0]'(by omega))) (by simp [List.getElem?_eq_getElem (show 0 < z.length by omega)])
  rw [hb.cell] at h1
  generalize off + 0 = i at h1
  match i, h1 with
  | 0, h1 => simp at h1
  | 1, h1 => simp at h1
  | i + 2, h1 => simp at h1
theorem impl_Rat_num_n {w : World} {xs : List Value} {N : Int} {D E : Nat} {p : Option Addr} {m c : Nat} (h : Reps w xs (rmk N D)) (hok : ratOk (rmk N D) = true) (k : IntsR w p m c (digs E)) (hm : m <= 100) :
    Ret P n_impl_Rat_num [.agg ⟨xs⟩, .slice p m c] w fun v w' => ∃ vs f, v = .agg ⟨vs⟩ /\ Owns w' w.heap.size vs (enc (N * E)) f /\ f.Nodup /\ Ext w w' := by
  obtain ⟨p1, n1, c1, q1, m1, d1, rfl, i1, i2, li1, li2, he, hd1⟩ := rmk_open h hok
  have ei1 := i1.1; have ek := k.1
  refine impl_Rat_num_ret ?_
  unfold impl_Rat_num
  intro r w1 hn1 r1 w2 hn2
  have e1 := hn1.r_eq; have e2 := hn2.r_eq; have z1 := hn1.size; have z2 := hn2.size
  have D := Ext.drew w2
  have lD := D.le
  have X := (hn1.ext.trans hn2.ext).trans D
  have b0 := (hn1.blk.ext hn2.ext).ext D; have b1 := hn2.blk.ext D
  refine ⟨_, fun W hW => (b0.ext hW).loadAt 0 rfl (by kernel_rfl) rfl, _, _, _, fun W hW => (b0.ext hW).loadAt 1 rfl (by kernel_rfl) rfl, ?_⟩
  refine Ret.at (impl_natMul_c (i1.ext X) (k.ext X) (digs_limbs _) (digs_limbs _) (by omega) (by omega)) ?_
  rintro v w4 ⟨p4, n4, c4, hv, o4, y4⟩
  subst hv
  rw [val_mul] at o4
  refine ⟨_, _, _, rfl, y4, ?_⟩
  refine Ret.at (impl_signed_c (neg := decide (N < 0)) o4.ints.1) ?_
  rintro v w5 ⟨hv, y5⟩
  subst hv
  have sg : N * (E : Int) ≠ 0 -> decide (N < 0) = decide (N * (E : Int) < 0) := fun hh => by
    have := mul_sign hh
    rw [<- this, decide_eq_false (show ¬ (E : Int) < 0 by omega)]
    cases decide (N < 0) <;> rfl
  obtain ⟨W', st, ld, ow, xx, _, _⟩ := agg_end (t := T_impl_Signed) ((b1.ext y4).ext y5) ((X.trans y4).trans y5) (by omega) (own_int (o4.ext y5) (z := N * (E : Int)) (by rw [Int.natAbs_mul, Int.natAbs_natCast]) sg) (by kernel_rfl) rfl (by omega) (by omega)
  exact ⟨_, _, _, _, rfl, W', st, _, _, _, _, ld, _, _, rfl, ow, nodup_opt p4, xx⟩
theorem impl_RatAdd_n {w : World} {xs ys : List Value} {N1 N2 : Int} {D1 D2 : Nat} (h : Reps w xs (rmk N1 D1)) (g : Reps w ys (rmk N2 D2)) (hok : ratOk (rmk N1 D1) = true) (gok : ratOk (rmk N2 D2) = true) :
    Ret P n_impl_RatAdd [.agg ⟨xs⟩, .agg ⟨ys⟩] w fun v w' => ∃ vs f, v = .tuple #[.agg ⟨vs⟩, .bool (redOk (N1 * D2 + N2 * D1) (D1 * D2))] /\ Owns w' w.heap.size vs (redR (N1 * D2 + N2 * D1) (D1 * D2)) f /\ f.Nodup /\ Ext w w' := by
  have hr := h; have gr := g
  obtain ⟨p1, n1, c1, q1, m1, d1, rfl, i1, i2, li1, li2, he, hd1⟩ := rmk_open h hok
  obtain ⟨p2, n2, c2, q2, m2, d2, rfl, j1, j2, lj1, lj2, ke, hd2⟩ := rmk_open g gok
  have ei1 := i1.1; have ei2 := i2.1; have ej1 := j1.1; have ej2 := j2.1
  have pN := prod_len (x := N1.natAbs) (y := N2.natAbs) (i := 18) (j := 18) (by omega) (by omega)
  have pD := prod_len (x := D1) (y := D2) (i := 18) (j := 18) (by omega) (by omega)
  refine impl_RatAdd_ret ?_
  unfold impl_RatAdd
  intro r w1 hn1 r1 w2 hn2 r2 w3 hn3
  have e1 := hn1.r_eq; have e2 := hn2.r_eq; have e3 := hn3.r_eq; have z1 := hn1.size; have z2 := hn2.size; have z3 := hn3.size
  have X := (hn1.ext.trans hn2.ext).trans hn3.ext
  have b0 := (hn1.blk.ext hn2.ext).ext hn3.ext; have b1 := hn2.blk.ext hn3.ext; have b2 := hn3.blk
  refine ⟨_, _, _, _, _, _, _, b0.loadA0 (by kernel_rfl), _, _, _, _, _, _, _, b1.loadA0 (by kernel_rfl), ?_⟩
  refine Ret.at (impl_ratsOk_c (hr.ext X) (gr.ext X) hok gok) ?_
  rintro v w4 ⟨hv, y4⟩
  subst hv
  refine ⟨_, rfl, ifN (fun hh => absurd hh (by simp)) (fun _ => ?_)⟩
  have D := Ext.drew w4
  have Y := y4.trans D
  have X4 := X.trans Y
  have lY := Y.le
  have b0 := b0.ext Y; have b1 := b1.ext Y; have b2 := b2.ext Y
  have D' := Ext.drew w4.drew
  have X5 := X4.trans D'
  have lD' := D'.le
  have b0' := b0.ext D'; have b1' := b1.ext D'; have b2' := b2.ext D'
  refine ⟨_, _, _, _, _, _, _, fun W hW => (b0.ext hW).loadA0 (by kernel_rfl), _, _, _, _, _, _, _, fun W hW => (b1.ext hW).loadA0 (by kernel_rfl), _, _, _, fun W hW => (b1'.ext hW).loadAt 2 rfl (by kernel_rfl) rfl, _, _, _, rfl, by kernel_rfl, ?_⟩
  refine Calls.mono (impl_Rat_num_n (hr.ext X5) hok (j2.ext X5) (by omega)) ?_
  rintro e w5 ⟨v, he5, vs5, f5, hv, ho5, _, y5⟩
  subst hv
  obtain ⟨s0, sp, sn, sc, sz, rfl, _, _⟩ := open_Signed ho5.reps (enc_code _)
  refine ⟨_, _, _, _, he5, y5, _, _, _, fun W hW => (b0'.ext hW).loadAt 2 rfl (by kernel_rfl) rfl, _, _, _, rfl, by kernel_rfl, ?_⟩
  refine Calls.mono (impl_Rat_num_n (gr.ext (X5.trans y5)) gok (i2.ext (X5.trans y5)) (by omega)) ?_
  rintro e w6 ⟨v, he6, vs6, f6, hv, ho6, _, y6⟩
  subst hv
  obtain ⟨u0, up, un, uc, uz, rfl, _, _⟩ := open_Signed ho6.reps (enc_code _)
  refine ⟨_, _, _, _, he6, y6, ?_⟩
  have t1 := cross_len (N := N1) (E := D2) (by omega) (by omega)
  have t2 := cross_len (N := N2) (E := D1) (by omega) (by omega)
  have t3 := sum_len t1 t2
  refine Ret.at (impl_intAdd_c (ho5.reps.ext y6) ho6.reps (by omega) (by omega)) ?_
  rintro v w7 ⟨p7, n7, c7, hv, o7, y7⟩
  subst hv
  refine ⟨_, _, _, _, rfl, y7, _, _, _, fun W hW => (b0'.ext hW).loadAt 2 rfl (by kernel_rfl) rfl, _, _, _, fun W hW => (b1'.ext hW).loadAt 2 rfl (by kernel_rfl) rfl, ?_⟩
  have Y7 := (y5.trans y6).trans y7
  refine Ret.at (impl_natMul_c (i2.ext (X5.trans Y7)) (j2.ext (X5.trans Y7)) (digs_limbs _) (digs_limbs _) (by omega) (by omega)) ?_
  rintro v w8 ⟨p8, n8, c8, hv, o8, y8⟩
  subst hv
  rw [val_mul] at o8
  have l8 := o8.ints.1
  have lY7 := Y7.le; have ly8 := y8.le
  refine ⟨_, _, _, rfl, ?_⟩
  have hs : Reps w8 [.bool (decide (N1 * (D2 : Int) + N2 * (D1 : Int) < 0)), .slice p7 n7 c7] (enc (N1 * D2 + N2 * D1)) := ⟨rfl, ⟨_, _, _, rfl, o7.ints.ext y8⟩, trivial⟩
  refine Ret.at (impl_reduce_c hs o8.ints (Nat.mul_pos hd1 hd2) (by omega) (by omega)) ?_
  rintro v w99 ⟨vs9, f9, hv, ho9, nd9, y99⟩
  subst hv
  obtain ⟨zb, zp, zn, zc, zz, zp2, zn2, zc2, zz2, rfl, _, _, _⟩ := open_Rat ho9.reps (redR_code _ _)
  obtain ⟨W', st', ld', ow', xx', _, _⟩ := agg_end (t := T_impl_Rat) (((b2'.ext Y7).ext y8).ext y99) (((X5.trans Y7).trans y8).trans y99) (by omega) ho9 (by kernel_rfl) rfl (by omega) (by omega)
  exact ⟨_, _, _, _, _, _, _, _, rfl, W', st', _, _, _, _, _, _, _, ld', _, f9, rfl, ow', nd9, xx'⟩
  
theorem spec_RatAdd_n {w : World} {xs ys : List Value} {N1 N2 : Int} {D1 D2 : Nat} (h : Reps w xs (rmk N1 D1)) (g : Reps w ys (rmk N2 D2)) (hok : ratOk (rmk N1 D1) = true) (gok : ratOk (rmk N2 D2) = true) :
    Ret P n_spec_RatAdd [.agg ⟨xs⟩, .agg ⟨ys⟩] w fun v w' => ∃ vs f, v = .tuple #[.agg ⟨vs⟩, .bool (redOk (N1 * D2 + N2 * D1) (D1 * D2))] /\ Owns w' w.heap.size vs (redR (N1 * D2 + N2 * D1) (D1 * D2)) f /\ f.Nodup /\ Ext w w' := by
  have hr := h; have gr := g
  obtain ⟨p1, n1, c1, q1, m1, d1, rfl, i1, i2, li1, li2, he, hd1⟩ := rmk_open h hok
  obtain ⟨p2, n2, c2, q2, m2, d2, rfl, j1, j2, lj1, lj2, ke, hd2⟩ := rmk_open g gok
  have ei1 := i1.1; have ei2 := i2.1; have ej1 := j1.1; have ej2 := j2.1
  have pN := prod_len (x := N1.natAbs) (y := N2.natAbs) (i := 18) (j := 18) (by omega) (by omega)
  have pD := prod_len (x := D1) (y := D2) (i := 18) (j := 18) (by omega) (by omega)
  refine spec_RatAdd_ret ?_
  unfold spec_RatAdd
  intro r w1 hn1 r1 w2 hn2 r2 w3 hn3
  have e1 := hn1.r_eq; have e2 := hn2.r_eq; have e3 := hn3.r_eq; have z1 := hn1.size; have z2 := hn2.size; have z3 := hn3.size
  have X := (hn1.ext.trans hn2.ext).trans hn3.ext
  have b0 := (hn1.blk.ext hn2.ext).ext hn3.ext; have b1 := hn2.blk.ext hn3.ext; have b2 := hn3.blk
  refine ⟨_, _, _, _, _, _, _, b0.loadA0 (by kernel_rfl), ?_⟩
  refine Ret.at (spec_RatOk_c (hr.ext X) (rmk_code _ _)) ?_
  rintro v w5 ⟨hv, y5⟩
  subst hv
  rw [hok]
  refine ⟨_, rfl, ifN (fun hh => absurd hh (by simp)) (fun _ => ⟨_, _, _, _, _, _, _, (b1.ext y5).loadA0 (by kernel_rfl), ?_⟩)⟩
  refine Ret.at (spec_RatOk_c (gr.ext (X.trans y5)) (rmk_code _ _)) ?_
  rintro v w4 ⟨hv, y4⟩
  subst hv
  rw [gok]
  refine ⟨_, rfl, ifN (fun hh => absurd hh (by simp)) (fun _ => ?_)⟩
  unfold spec_RatAdd_j0
  have D := Ext.drew w4
  have Y := (y5.trans y4).trans D
  have X4 := X.trans Y
  have lY := Y.le
  have b0 := b0.ext Y; have b1 := b1.ext Y; have b2 := b2.ext Y
  refine ⟨_, fun W hW => (b0.ext hW).loadAt 0 rfl (by kernel_rfl) rfl, _, _, _, fun W hW => (b0.ext hW).loadAt 1 rfl (by kernel_rfl) rfl, _, _, _, fun W hW => (b1.ext hW).loadAt 2 rfl (by kernel_rfl) rfl, ?_⟩
  intro ss1 a1 F11
  have S11 := (FlSt.start (o := .cells ⟨[.bool false, .slice none 0 0]⟩ T_impl_Signed (0, 0)) w4.drew).step F11
  refine Ret.at (spec_l02Mul_c (i1.ext (X4.trans F11.ext)) (j2.ext (X4.trans F11.ext)) (digs_limbs _) (digs_limbs _) (by omega) (by omega)) ?_
  rintro v a1b ⟨pa1, na1, ca1, hv, oa1, ya1⟩
  subst hv
  rw [val_digs, val_digs] at oa1
  have la1 := oa1.len
  simp only [List.length_map] at la1
  have ta1 := prod_len (x := N1.natAbs) (y := D2) (i := 18) (j := 18) (by omega) (by omega)
  rw [show N1.natAbs * D2 = ((N1.natAbs : Int) * D2).toNat by rw [<- Int.natCast_mul, Int.toNat_natCast]] at ta1
  refine ⟨_, _, _, rfl, ya1, ?_⟩
  intro ss1' a1c F21
  have S21 := (S11.ext ya1).step F21
  refine Ret.at (prod_make (n := N1) (d := D2) (oa1.ints.ext F21.ext) hd2 (by omega)) ?_
  rintro v a1d ⟨ba1, pb1, nb1, cb1, hv, ra1, _, yb1⟩
  subst hv
  refine ⟨_, _, _, _, rfl, ?_⟩
  intro ss1'' a1e r1 F31 G1
  have S31 := (S21.ext yb1).step F31
  obtain ⟨hr1, hbk1⟩ := S31.get G1
  have B1 : Blk a1e r1 T_impl_Signed [.bool false, .slice none 0 0] := hbk1
  obtain ⟨a1f, st1, bb1, ch1, _⟩ := B1.storeA0 (P := P) (t := T_impl_Signed) (xs := [.bool ba1, .slice pb1 nb1 cb1]) (by kernel_rfl) rfl (by simp [Value.oneCell'])
  have Ya1 : Ext w4.drew a1f := S31.1.chg ch1 (by simp; exact hr1)
  have ia1 : Reps a1f [.bool ba1, .slice pb1 nb1 cb1] (enc (N1 * (D2 : Int))) := by
    obtain ⟨h0, ⟨p', n', c', hq, hi⟩, _⟩ := ra1
    cases hq
    exact ⟨h0, ⟨_, _, _, rfl, IntsR.store2 B1 (hi.ext F31.ext) ch1⟩, trivial⟩
  refine ⟨a1f, st1, ?_⟩
  have DA := Ext.drew a1f
  have YA := Ya1.trans DA
  have XA := X4.trans YA
  have c0 := b0.ext YA; have c1 := b1.ext YA; have c2 := b2.ext YA
  have lYA := YA.le
  refine ⟨_, fun W hW => (c1.ext hW).loadAt 0 rfl (by kernel_rfl) rfl, _, _, _, fun W hW => (c1.ext hW).loadAt 1 rfl (by kernel_rfl) rfl, _, _, _, fun W hW => (c0.ext hW).loadAt 2 rfl (by kernel_rfl) rfl, ?_⟩
  intro ss2 a2 F12
  have S12 := (FlSt.start (o := .cells ⟨[.bool false, .slice none 0 0]⟩ T_impl_Signed (0, 0)) a1f.drew).step F12
  refine Ret.at (spec_l02Mul_c (j1.ext (XA.trans F12.ext)) (i2.ext (XA.trans F12.ext)) (digs_limbs _) (digs_limbs _) (by omega) (by omega)) ?_
  rintro v a2b ⟨pa2, na2, ca2, hv, oa2, ya2⟩
  subst hv
  rw [val_digs, val_digs] at oa2
  have la2 := oa2.len
  simp only [List.length_map] at la2
  have ta2 := prod_len (x := N2.natAbs) (y := D1) (i := 18) (j := 18) (by omega) (by omega)
  rw [show N2.natAbs * D1 = ((N2.natAbs : Int) * D1).toNat by rw [<- Int.natCast_mul, Int.toNat_natCast]] at ta2
  refine ⟨_, _, _, rfl, ya2, ?_⟩
  intro ss2' a2c F22
  have S22 := (S12.ext ya2).step F22
  refine Ret.at (prod_make (n := N2) (d := D1) (oa2.ints.ext F22.ext) hd1 (by omega)) ?_
  rintro v a2d ⟨ba2, pb2, nb2, cb2, hv, ra2, _, yb2⟩
  subst hv
  refine ⟨_, _, _, _, rfl, ?_⟩
  intro ss2'' a2e r2 F32 G2
  have S32 := (S22.ext yb2).step F32
  obtain ⟨hr2, hbk2⟩ := S32.get G2
  have B2 : Blk a2e r2 T_impl_Signed [.bool false, .slice none 0 0] := hbk2
  obtain ⟨a2f, st2, bb2, ch2, _⟩ := B2.storeA0 (P := P) (t := T_impl_Signed) (xs := [.bool ba2, .slice pb2 nb2 cb2]) (by kernel_rfl) rfl (by simp [Value.oneCell'])
  have Ya2 : Ext a1f.drew a2f := S32.1.chg ch2 (by simp; exact hr2)
  have ia2 : Reps a2f [.bool ba2, .slice pb2 nb2 cb2] (enc (N2 * (D1 : Int))) := by
    obtain ⟨h0, ⟨p', n', c', hq, hi⟩, _⟩ := ra2
    cases hq
    exact ⟨h0, ⟨_, _, _, rfl, IntsR.store2 B2 (hi.ext F32.ext) ch2⟩, trivial⟩
  refine ⟨a2f, st2, ?_⟩
  have XB := XA.trans Ya2
  have lYB := Ya2.le
  have g0 := c0.ext Ya2; have g1 := c1.ext Ya2; have g2 := c2.ext Ya2
  have k1 := (bb1.ext DA).ext Ya2
  have t1 := cross_len (N := N1) (E := D2) (by omega) (by omega)
  have t2 := cross_len (N := N2) (E := D1) (by omega) (by omega)
  have t3 := sum_len t1 t2
  refine ⟨_, _, _, _, k1.loadA0 (by kernel_rfl), _, _, _, _, bb2.loadA0 (by kernel_rfl), ?_⟩
  refine Ret.at (spec_l04Add_c ((ia1.ext DA).ext Ya2) ia2 (by omega) (by omega)) ?_
  rintro v w7 ⟨vs7, f7, hv, ho7, _, y7⟩
  subst hv
  rw [icap_fit (by omega)] at ho7
  have hr7 := ho7.reps
  obtain ⟨u0, up, un, uc, uz, rfl, hu, ui⟩ := open_Signed hr7 (enc_code _)
  simp only [enc, List.cons.injEq, D0.bool.injEq, D0.ints.injEq, and_true] at hu
  obtain ⟨rfl, rfl⟩ := hu
  refine ⟨_, _, _, _, rfl, ?_⟩
  intro r5 w8 hn8
  obtain ⟨w9, st9, hb9, y9⟩ := hn8.fill (P := P) (t := T_impl_Signed) (xs := [.bool (decide (N1 * (D2 : Int) + N2 * (D1 : Int) < 0)), .slice up un uc]) (by simp [Value.oneCell']) (by kernel_rfl) rfl
  refine ⟨w9, st9, ?_⟩
  have D9 := Ext.drew w9
  have Y9 := (y7.trans y9).trans D9
  have X9 := XB.trans Y9
  have lY9 := Y9.le
  have g0 := g0.ext Y9; have g1 := g1.ext Y9; have g2 := g2.ext Y9; have hb9 := hb9.ext D9
  have ui9 := (ui.ext y9).ext D9
  have lui := ui.1
  refine ⟨_, fun W hW => (hb9.ext hW).loadAt 0 rfl (by kernel_rfl) rfl, _, _, _, fun W hW => (hb9.ext hW).loadAt 1 rfl (by kernel_rfl) rfl, _, _, _, fun W hW => (g0.ext hW).loadAt 2 rfl (by kernel_rfl) rfl, _, _, _, fun W hW => (g1.ext hW).loadAt 2 rfl (by kernel_rfl) rfl, ?_⟩
  refine Ret.at (spec_l02Mul_c (i2.ext X9) (j2.ext X9) (digs_limbs _) (digs_limbs _) (by omega) (by omega)) ?_
  rintro v w10 ⟨p10, n10, c10, hv, o10, y10⟩
  subst hv
  rw [val_mul] at o10
  have l10 := o10.ints.1
  have ly10 := y10.le
  refine ⟨_, _, _, rfl, y10, ?_⟩
  refine Ret.at (spec_l05Low_c (n := N1 * D2 + N2 * D1) (ui9.ext y10) o10.ints (fun _ => rfl) (Nat.mul_pos hd1 hd2) (by omega) (by omega)) ?_
  rintro v w99 ⟨vs9, f9, hv, ho9, nd9, y99⟩
  subst hv
  obtain ⟨zb, zp, zn, zc, zz, zp2, zn2, zc2, zz2, rfl, _, _, _⟩ := open_Rat ho9.reps (redR_code _ _)
  obtain ⟨W', st', ld', ow', xx', _, _⟩ := agg_end (t := T_impl_Rat) ((g2.ext y10).ext y99) ((X9.trans y10).trans y99) (by omega) ho9 (by kernel_rfl) rfl (by omega) (by omega)
  exact ⟨_, _, _, _, _, _, _, _, rfl, W', st', _, _, _, _, _, _, _, ld', _, f9, rfl, ow', nd9, xx'⟩
  
theorem impl_RatSub_n {w : World} {xs ys : List Value} {N1 N2 : Int} {D1 D2 : Nat} (h : Reps w xs (rmk N1 D1)) (g : Reps w ys (rmk N2 D2)) (hok : ratOk (rmk N1 D1) = true) (gok : ratOk (rmk N2 D2) = true) :
    Ret P n_impl_RatSub [.agg ⟨xs⟩, .agg ⟨ys⟩] w fun v w' => ∃ vs f, v = .tuple #[.agg ⟨vs⟩, .bool (redOk (N1 * D2 + -N2 * D1) (D1 * D2))] /\ Owns w' w.heap.size vs (redR (N1 * D2 + -N2 * D1) (D1 * D2)) f /\ f.Nodup /\ Ext w w' := by
  have hr := h; have gr := g
  obtain ⟨p1, n1, c1, q1, m1, d1, rfl, i1, i2, li1, li2, he, hd1⟩ := rmk_open h hok
  obtain ⟨p2, n2, c2, q2, m2, d2, rfl, j1, j2, lj1, lj2, ke, hd2⟩ := rmk_open g gok
  have ei1 := i1.1; have ei2 := i2.1; have ej1 := j1.1; have ej2 := j2.1
  have pN := prod_len (x := N1.natAbs) (y := N2.natAbs) (i := 18) (j := 18) (by omega) (by omega)
  have pD := prod_len (x := D1) (y := D2) (i := 18) (j := 18) (by omega) (by omega)
  refine impl_RatSub_ret ?_
  unfold impl_RatSub
  intro r w1 hn1 r1 w2 hn2 r2 w3 hn3
  have e1 := hn1.r_eq; have e2 := hn2.r_eq; have e3 := hn3.r_eq; have z1 := hn1.size; have z2 := hn2.size; have z3 := hn3.size
  have X := (hn1.ext.trans hn2.ext).trans hn3.ext
  have b0 := (hn1.blk.ext hn2.ext).ext hn3.ext; have b1 := hn2.blk.ext hn3.ext; have b2 := hn3.blk
  refine ⟨_, _, _, _, _, _, _, b0.loadA0 (by kernel_rfl), _, _, _, _, _, _, _, b1.loadA0 (by kernel_rfl), ?_⟩
  refine Ret.at (impl_ratsOk_c (hr.ext X) (gr.ext X) hok gok) ?_
  rintro v w4 ⟨hv, y4⟩
  subst hv
  refine ⟨_, rfl, ifN (fun hh => absurd hh (by simp)) (fun _ => ?_)⟩
  have D := Ext.drew w4
  have Y := y4.trans D
  have X4 := X.trans Y
  have lY := Y.le
  have b0 := b0.ext Y; have b1 := b1.ext Y; have b2 := b2.ext Y
  refine ⟨_, _, _, _, _, _, _, fun W hW => (b0.ext hW).loadA0 (by kernel_rfl), _, _, _, _, _, _, _, fun W hW => (b1.ext hW).loadA0 (by kernel_rfl), ?_⟩
  refine Ret.at (impl_ratNeg_c (gr.ext X4) (rmk_code _ _) gok) ?_
  rintro v w5 ⟨vs5, f5, hv, ho5, _, y5⟩
  subst hv
  rw [ratNum_rmk, ratDen_rmk] at ho5
  have hr5 := ho5.reps
  obtain ⟨s0, sp, sn, sc, sz, sp2, sn2, sc2, sz2, rfl, _, _, _⟩ := open_Rat hr5 (rmk_code _ _)
  have l5 := y5.le
  refine ⟨_, _, _, _, _, _, _, rfl, y5, ?_⟩
  refine Ret.at (impl_RatAdd_n (hr.ext (X4.trans y5)) hr5 hok (ratOk_neg gok)) ?_
  rintro v w99 ⟨vs9, f9, hv, ho9, nd9, y99⟩
  subst hv
  obtain ⟨zb, zp, zn, zc, zz, zp2, zn2, zc2, zz2, rfl, _, _, _⟩ := open_Rat ho9.reps (redR_code _ _)
  obtain ⟨W', st', ld', ow', xx', _, _⟩ := agg_end (t := T_impl_Rat) ((b2.ext y5).ext y99) ((X4.trans y5).trans y99) (by omega) ho9 (by kernel_rfl) rfl (by omega) (by omega)
  exact ⟨_, _, _, _, _, _, _, _, rfl, W', st', _, _, _, _, _, _, _, ld', _, f9, rfl, ow', nd9, xx'⟩
  
theorem spec_RatSub_n {w : World} {xs ys : List Value} {N1 N2 : Int} {D1 D2 : Nat} (h : Reps w xs (rmk N1 D1)) (g : Reps w ys (rmk N2 D2)) (hok : ratOk (rmk N1 D1) = true) (gok : ratOk (rmk N2 D2) = true) :
    Ret P n_spec_RatSub [.agg ⟨xs⟩, .agg ⟨ys⟩] w fun v w' => ∃ vs f, v = .tuple #[.agg ⟨vs⟩, .bool (redOk (N1 * D2 + -N2 * D1) (D1 * D2))] /\ Owns w' w.heap.size vs (redR (N1 * D2 + -N2 * D1) (D1 * D2)) f /\ f.Nodup /\ Ext w w' := by
  have hr := h; have gr := g
  obtain ⟨p1, n1, c1, q1, m1, d1, rfl, i1, i2, li1, li2, he, hd1⟩ := rmk_open h hok
  obtain ⟨p2, n2, c2, q2, m2, d2, rfl, j1, j2, lj1, lj2, ke, hd2⟩ := rmk_open g gok
  have ei1 := i1.1; have ei2 := i2.1; have ej1 := j1.1; have ej2 := j2.1
  have pN := prod_len (x := N1.natAbs) (y := N2.natAbs) (i := 18) (j := 18) (by omega) (by omega)
  have pD := prod_len (x := D1) (y := D2) (i := 18) (j := 18) (by omega) (by omega)
  refine spec_RatSub_ret ?_
  unfold spec_RatSub
  intro r w1 hn1 r1 w2 hn2 r2 w3 hn3
  have e1 := hn1.r_eq; have e2 := hn2.r_eq; have e3 := hn3.r_eq; have z1 := hn1.size; have z2 := hn2.size; have z3 := hn3.size
  have X := (hn1.ext.trans hn2.ext).trans hn3.ext
  have b0 := (hn1.blk.ext hn2.ext).ext hn3.ext; have b1 := hn2.blk.ext hn3.ext; have b2 := hn3.blk
  refine ⟨_, _, _, _, _, _, _, b1.loadA0 (by kernel_rfl), ?_⟩
  refine Ret.at (spec_RatNeg_c (gr.ext X) (rmk_code _ _) gok) ?_
  rintro v w5 ⟨vs5, f5, hv, ho5, y5⟩
  subst hv
  rw [ratNum_rmk, ratDen_rmk] at ho5
  have hr5 := ho5.reps
  obtain ⟨s0, sp, sn, sc, sz, sp2, sn2, sc2, sz2, rfl, _, _, _⟩ := open_Rat hr5 (rmk_code _ _)
  refine ⟨_, _, _, _, _, _, _, _, rfl, ?_⟩
  intro r6 w6 hn6
  obtain ⟨w7, st7, hb7, y7⟩ := hn6.fill (P := P) (t := T_impl_Rat) (xs := [.bool s0, .slice sp sn sc, .slice sp2 sn2 sc2]) (by simp [Value.oneCell']) (by kernel_rfl) rfl
  refine ⟨w7, st7, ifN (fun hh => absurd hh (by simp)) (fun _ => ?_)⟩
  have Y := y5.trans y7
  have X4 := X.trans Y
  have lY := Y.le
  have b0 := b0.ext Y; have b1 := b1.ext Y; have b2 := b2.ext Y
  refine ⟨_, _, _, _, _, _, _, b0.loadA0 (by kernel_rfl), _, _, _, _, _, _, _, hb7.loadA0 (by kernel_rfl), ?_⟩
  refine Ret.at (spec_RatAdd_n (hr.ext X4) (hr5.ext y7) hok (ratOk_neg gok)) ?_
  rintro v w99 ⟨vs9, f9, hv, ho9, nd9, y99⟩
  subst hv
  obtain ⟨zb, zp, zn, zc, zz, zp2, zn2, zc2, zz2, rfl, _, _, _⟩ := open_Rat ho9.reps (redR_code _ _)
  obtain ⟨W', st', ld', ow', xx', _, _⟩ := agg_end (t := T_impl_Rat) ((b2).ext y99) ((X4).trans y99) (by omega) ho9 (by kernel_rfl) rfl (by omega) (by omega)
  exact ⟨_, _, _, _, _, _, _, _, rfl, W', st', _, _, _, _, _, _, _, ld', _, f9, rfl, ow', nd9, xx'⟩
  
end Go.Proofs.YtfehpaekbbmkcaaGreatDoor
namespace Go.Proofs.YtfehpaekbbmkcaaGreatDoor
open Go Go.Proofs.YtfehpaekbbmkcaaGreatDoor.Sx
theorem spec_l02Add_k {w : World} {p q : Option Addr} {n c m d : Nat} {a b : List Int} (h : IntsR w p n c a) (k : IntsR w q m d b) (hca : Canon a) (hcb : Canon b) (hn : n <= 10000000) (hm : m <= 10000000) :
    Ret P n_spec_l02Add [.slice p n c, .slice q m d] w fun v w' => ∃ p' n' c' o, v = .slice p' n' c' /\ IntsR w' p' n' c' o /\ Canon o /\ n' <= n + m + 1 /\ val o = val a + val b /\ Ext w w' := by
  refine spec_l02Add_ret ?_
  unfold spec_l02Add
  have hla := h.1; have hlb := k.1
  have ha := hca.1; have hb := hcb.1
  intro r w1 hn1
  let Inv : Option Addr -> Nat -> Nat -> Int -> Int -> World -> Prop := fun p on c carry i wr => ∃ (o : List Int), i = on /\ on <= n + m + 1 /\ (0 < carry -> on <= n + m) /\ Own wr w.heap.size T_int 1 p on c (o.map (Value.int .i64)) /\ Ext w wr /\ Limbs o /\ o.length = on /\ 0 <= carry /\ carry <= 1 /\ (n <= on /\ m <= on /\ carry = 0 /\ 0 < on -> o.getLast? ≠ some 0) /\ val o + 1000000000 ^ on * carry = val (a.take on) + val (b.take on)
  refine ⟨Inv, fun _ _ _ _ i _ => n + m + 2 - i.toNat, ⟨[], rfl, by omega, by omega, Own.fresh hn1, hn1.ext, Limbs.nil, rfl, by omega, by omega, fun hh => absurd hh.2.2.2 (by omega), by simp [val]⟩, ?_⟩
  intro junk wr op j oc carry i ⟨o, hi, hjn, hcj, hown, hx, hlo, hol, hc0, hc1, hcan, hv⟩
  subst hi
  have A := ha.getD j; have B := hb.getD j
  have ab : (j : Int) < n ∨ a.getD j 0 = 0 := by
    by_cases e : j < n
    · left; omega
    · right; exact getD_beyond (by omega)
  have bb : (j : Int) < m ∨ b.getD j 0 = 0 := by
    by_cases e : j < m
    · left; omega
    · right; exact getD_beyond (by omega)
  have J2 : ∀ t, t = carry + a.getD j 0 + b.getD j 0 -> (j < n ∨ j < m ∨ 0 < carry) -> spec_l02Add_j2 wr Inv (fun _ _ _ _ i _ => n + m + 2 - i.toNat) op j oc carry j t wr fun v w' => ∃ p' n' c' o, v = .slice p' n' c' /\ IntsR w' p' n' c' o /\ Canon o /\ n' <= n + m + 1 /\ val o = val a + val b /\ Ext w w' := by
    intro t ht hlt
    unfold spec_l02Add_j2
    refine ⟨by decide, _, rfl, fun r1 w2 hn2 => ?_⟩
    rw [tmod_limb (by omega)] at hn2
    obtain ⟨p', c', w3, g1, g2, g3⟩ := Own.push hown hx.le hn2 (by omega)
    refine ⟨_, _, _, _, g1, by decide, ?_⟩
    rw [tdiv_limb (by omega)]
    have hcar : 0 < t / 1000000000 -> j < n ∨ j < m := by
      intro h0
      by_cases e : j < n
      · exact .inl e
      · by_cases e2 : j < m
        · exact .inr e2
        · have e3 := ab.resolve_left (by omega); have e4 := bb.resolve_left (by omega)
          rw [e3, e4] at ht; omega
    have hnew : n <= j + 1 /\ m <= j + 1 /\ t / 1000000000 = 0 /\ 0 < j + 1 -> (o ++ [t % 1000000000]).getLast? ≠ some 0 := by
      intro hh
      rw [List.getLast?_concat]
      intro e
      have e := Option.some.inj e
      have : 1 <= t := by
        rcases hlt with h1 | h1 | h1
        · have := canon_top hca (show a.length = j + 1 by omega)
          omega
        · have := canon_top hcb (show b.length = j + 1 by omega)
          omega
        · omega
      omega
    refine exW ⟨by omega, by omega⟩ (exW ⟨by omega, by omega⟩ ⟨⟨o ++ [t % 1000000000], by omega, by rcases hlt with h | h | h <;> omega, fun h0 => by rcases hcar h0 with h | h <;> omega, g2, g3 w hx (Nat.le_refl _), hlo.snoc (limb_mod t), by simp [hol], by omega, by omega, hnew, add_step hol hv ht⟩, ?_⟩)
    show n + m + 2 - ((j : Int) + 1).toNat < n + m + 2 - (j : Int).toNat
    rcases hlt with h | h | h <;> omega
  have J1 : ∀ t, t = carry + a.getD j 0 -> (j < n ∨ j < m ∨ 0 < carry) -> spec_l02Add_j1 q m wr Inv (fun _ _ _ _ i _ => n + m + 2 - i.toNat) op j oc carry j t wr fun v w' => ∃ p' n' c' o, v = .slice p' n' c' /\ IntsR w' p' n' c' o /\ Canon o /\ n' <= n + m + 1 /\ val o = val a + val b /\ Ext w w' := by
    intro t ht hlt
    unfold spec_l02Add_j1
    refine ifD (fun hlm => ?_) (fun hge => J2 _ (by rw [bb.resolve_left hge]; omega) hlt)
    obtain ⟨ad, rfl, hl⟩ := ints_at (k.ext hx) (i := (j : Int)) (by omega) hlm
    exact ⟨⟨by omega, by omega⟩, _, hl, exW ⟨by simp only [Int.toNat_natCast]; omega, by simp only [Int.toNat_natCast]; omega⟩ (J2 _ (by simp only [Int.toNat_natCast]; omega) hlt)⟩
  have J0 : (j < n ∨ j < m ∨ 0 < carry) -> spec_l02Add_j0 p n q m wr Inv (fun _ _ _ _ i _ => n + m + 2 - i.toNat) op j oc carry j wr fun v w' => ∃ p' n' c' o, v = .slice p' n' c' /\ IntsR w' p' n' c' o /\ Canon o /\ n' <= n + m + 1 /\ val o = val a + val b /\ Ext w w' := by
    intro hlt
    unfold spec_l02Add_j0
    refine ifD (fun hln => ?_) (fun hge => J1 _ (by rw [ab.resolve_left hge]; omega) hlt)
    obtain ⟨ad, hp, hl⟩ := ints_at (h.ext hx) (i := (j : Int)) (by omega) hln
    subst hp
    exact ⟨⟨by omega, by omega⟩, _, hl, exW ⟨by simp only [Int.toNat_natCast]; omega, by simp only [Int.toNat_natCast]; omega⟩ (J1 _ (by simp only [Int.toNat_natCast]) hlt)⟩
  have fin : ¬ (j : Int) < n -> ¬ (j : Int) < m -> ¬ 0 < carry -> ∃ p' n' c' o, Value.slice op j oc = .slice p' n' c' /\ IntsR wr p' n' c' o /\ Canon o /\ n' <= n + m + 1 /\ val o = val a + val b /\ Ext w wr := by
    intro h1 h2 h3
    have hc : carry = 0 := by omega
    subst hc
    rw [List.take_of_length_le (by omega), List.take_of_length_le (by omega)] at hv
    have hlast : o.getLast? ≠ some 0 := by
      rcases Nat.eq_zero_or_pos j with hj0 | hj0
      · have : o = [] := List.eq_nil_of_length_eq_zero (by omega)
        rw [this]; simp
      · exact hcan ⟨by omega, by omega, rfl, hj0⟩
    exact ⟨_, _, _, o, rfl, hown.ints, ⟨hlo, hlast⟩, hjn, by omega, hx⟩
  exact ifD (fun h1 => ifT (ifT (J0 (.inl (by omega))))) (fun h1 => ifD (fun h2 => ifT (J0 (.inr (.inl (by omega))))) (fun h2 => ifD (fun h3 => J0 (.inr (.inr h3))) (fun h3 => fin h1 h2 h3)))
theorem spec_l02Add_n {w : World} {p q : Option Addr} {n c m d : Nat} {x y : Nat} (h : IntsR w p n c (digs x)) (k : IntsR w q m d (digs y)) (hn : n <= 1000) (hm : m <= 1000) :
    Ret P n_spec_l02Add [.slice p n c, .slice q m d] w fun v w' => ∃ p' n' c', v = .slice p' n' c' /\ IntsR w' p' n' c' (digs (x + y)) /\ Ext w w' := by
  refine (spec_l02Add_k h k (digs_canon x) (digs_canon y) (by omega) (by omega)).mono ?_
  rintro v w' ⟨p', n', c', o, hv, hi, hc, _, hval, y'⟩
  have e : o = digs (x + y) := by
    rw [val_digs, val_digs] at hval
    refine canon_inj hc (digs_canon _) ?_
    rw [hval, val_digs, Int.natCast_add]
  subst e
  exact ⟨p', n', c', hv, hi, y'⟩
theorem digs_one_r {W : World} {r : Nat} (hb : Blk W r T_int [.int .i64 1]) : IntsR W (some ⟨r, 0, none⟩) 1 1 (digs 1) := by
  rw [digs_one]
  exact ⟨rfl, Nat.le_refl _, by omega, fun _ => ⟨_, 0, rfl, hb.seg⟩⟩
theorem val_add' (m k : Nat) : (val (digs m) + val (digs k)).toNat = m + k := by rw [val_digs, val_digs, <- Int.natCast_add, Int.toNat_natCast]
theorem odd_even (q : Nat) : (!(decide (q % 2 = 0))) = decide (q % 2 = 1) := by
  rcases Nat.mod_two_eq_zero_or_one q with h | h <;> simp [h]
theorem impl_NatEven_n {w : World} {p : Option Addr} {n c q : Nat} (h : IntsR w p n c (digs q)) (hn : n <= 50) :
    Ret P n_impl_NatEven [.slice p n c] w fun v w' => v = .bool (decide (q % 2 = 0)) /\ Ext w w' := by
  have hl := h.1
  refine impl_NatEven_ret ?_
  unfold impl_NatEven
  refine Ret.at (impl_NatOk_c h) ?_
  rintro v w1 ⟨hv, y1⟩
  subst hv
  rw [natOk_spec.2 ⟨digs_canon q, by omega⟩]
  refine ⟨_, rfl, ifT (ifD (fun h0 => ⟨?_, y1⟩) (fun h0 => ?_))⟩
  · have : q % 2 = 0 := even_head.1 (.inl (by omega))
    rw [decide_eq_true this]
  · obtain ⟨ad, hp', hld⟩ := (h.ext y1).at (P := P) (t := T_int) (by kernel_rfl) (k := 0) (by omega)
    subst hp'
    have hx := digs_limbs q _ (List.getElem_mem (show 0 < (digs q).length by omega))
    refine ⟨⟨by omega, by omega⟩, _, by simpa using hld, by decide, _, rfl, ?_, y1⟩
    rw [Int.tmod_eq_emod_of_nonneg hx.1]
    have e : (digs q)[0]'(by omega) = (digs q).getD 0 0 := by rw [List.getD_eq_getElem?_getD, List.getElem?_eq_getElem (by omega)]; rfl
    rw [e]
    exact congrArg Value.bool (decide_eq_decide.2 ⟨fun hh => even_head.1 (.inr hh), fun hh => (even_head.2 hh).resolve_left (by omega)⟩)
theorem spec_NatEven_n {w : World} {p : Option Addr} {n c q : Nat} (h : IntsR w p n c (digs q)) (hn : n <= 50) :
    Ret P n_spec_NatEven [.slice p n c] w fun v w' => v = .bool (decide (q % 2 = 0)) /\ Ext w w' := by
  have hl := h.1
  refine spec_NatEven_ret ?_
  unfold spec_NatEven
  refine Ret.at (spec_NatOk_c h) ?_
  rintro v w1 ⟨hv, y1⟩
  subst hv
  rw [natOk_spec.2 ⟨digs_canon q, by omega⟩]
  refine ⟨_, rfl, ifT (ifD (fun h0 => ⟨?_, y1⟩) (fun h0 => ?_))⟩
  · have : q % 2 = 0 := even_head.1 (.inl (by omega))
    rw [decide_eq_true this]
  · obtain ⟨ad, hp', hld⟩ := (h.ext y1).at (P := P) (t := T_int) (by kernel_rfl) (k := 0) (by omega)
    subst hp'
    have hx := digs_limbs q _ (List.getElem_mem (show 0 < (digs q).length by omega))
    refine ⟨⟨by omega, by omega⟩, _, by simpa using hld, by decide, _, rfl, ?_, y1⟩
    rw [Int.tmod_eq_emod_of_nonneg hx.1]
    have e : (digs q)[0]'(by omega) = (digs q).getD 0 0 := by rw [List.getD_eq_getElem?_getD, List.getElem?_eq_getElem (by omega)]; rfl
    rw [e]
    exact congrArg Value.bool (decide_eq_decide.2 ⟨fun hh => even_head.1 (.inr hh), fun hh => (even_head.2 hh).resolve_left (by omega)⟩)
theorem impl_roundModes_1_n (neg : Bool) (half : Int) (odd : Bool) (w : World) : Ret P n_impl_roundModes_1 [.bool neg, .int .i64 half, .bool odd] w fun v w' => v = .bool (modeAway 0 neg half odd) /\ w' = w := by
  refine impl_roundModes_1_ret ?_
  unfold impl_roundModes_1
  exact ⟨rfl, rfl⟩
theorem impl_roundModes_2_n (neg : Bool) (half : Int) (odd : Bool) (w : World) : Ret P n_impl_roundModes_2 [.bool neg, .int .i64 half, .bool odd] w fun v w' => v = .bool (modeAway 1 neg half odd) /\ w' = w := by
  refine impl_roundModes_2_ret ?_
  unfold impl_roundModes_2
  exact ⟨rfl, rfl⟩
theorem impl_roundModes_3_n (neg : Bool) (half : Int) (odd : Bool) (w : World) : Ret P n_impl_roundModes_3 [.bool neg, .int .i64 half, .bool odd] w fun v w' => v = .bool (modeAway 2 neg half odd) /\ w' = w := by
  refine impl_roundModes_3_ret ?_
  unfold impl_roundModes_3
  exact ⟨rfl, rfl⟩
theorem impl_roundModes_4_n (neg : Bool) (half : Int) (odd : Bool) (w : World) : Ret P n_impl_roundModes_4 [.bool neg, .int .i64 half, .bool odd] w fun v w' => v = .bool (modeAway 3 neg half odd) /\ w' = w := by
  refine impl_roundModes_4_ret ?_
  unfold impl_roundModes_4
  exact ⟨rfl, rfl⟩
theorem impl_roundModes_5_n (neg : Bool) (half : Int) (odd : Bool) (w : World) : Ret P n_impl_roundModes_5 [.bool neg, .int .i64 half, .bool odd] w fun v w' => v = .bool (modeAway 4 neg half odd) /\ w' = w := by
  refine impl_roundModes_5_ret ?_
  unfold impl_roundModes_5
  exact ⟨rfl, rfl⟩
theorem impl_roundModes_6_n (neg : Bool) (half : Int) (odd : Bool) (w : World) : Ret P n_impl_roundModes_6 [.bool neg, .int .i64 half, .bool odd] w fun v w' => v = .bool (modeAway 5 neg half odd) /\ w' = w := by
  refine impl_roundModes_6_ret ?_
  unfold impl_roundModes_6
  exact ⟨rfl, rfl⟩
theorem impl_roundModes_7_n (neg : Bool) (half : Int) (odd : Bool) (w : World) : Ret P n_impl_roundModes_7 [.bool neg, .int .i64 half, .bool odd] w fun v w' => v = .bool (modeAway 6 neg half odd) /\ w' = w := by
  refine impl_roundModes_7_ret ?_
  unfold impl_roundModes_7
  refine ifD (fun h => ⟨?_, rfl⟩) (fun h => ifD (fun h0 => ⟨?_, rfl⟩) (fun h0 => ⟨?_, rfl⟩))
  · simp [modeAway, h]
  · simp [modeAway, h0]
  · simp [modeAway, h, h0]
def modeCells : List Value := [.string (S [100, 111, 119, 110]), .func (.func n_impl_roundModes_1) #[] #[], .string (S [117, 112]), .func (.func n_impl_roundModes_2) #[] #[], .string (S [102, 108, 111, 111, 114]), .func (.func n_impl_roundModes_3) #[] #[], .string (S [99, 101, 105, 108]), .func (.func n_impl_roundModes_4) #[] #[], .string (S [104, 97, 108, 102, 100, 111, 119, 110]), .func (.func n_impl_roundModes_5) #[] #[], .string (S [104, 97, 108, 102, 117, 112]), .func (.func n_impl_roundModes_6) #[] #[], .string (S [104, 97, 108, 102, 101, 118, 101, 110]), .func (.func n_impl_roundModes_7) #[] #[]]
theorem impl_roundModes_n (w : World) : Ret P n_impl_roundModes [] w fun v w' => v = .agg ⟨modeCells⟩ /\ Ext w w' := by
  refine impl_roundModes_ret ?_
  unfold impl_roundModes
  intro r w1 hn1
  obtain ⟨w2, st, hb2, y2⟩ := hn1.fill (P := P) (t := T_7_impl_roundMode) (xs := modeCells) (by simp [modeCells, Value.oneCell']) (by kernel_rfl) rfl
  exact ⟨w2, st, _, _, _, _, _, _, _, _, _, _, _, _, _, _, hb2.loadA0 (by kernel_rfl), rfl, y2⟩
theorem mode_call {m : Int} (h0 : 0 <= m) (h1 : m <= 6) (neg : Bool) (half : Int) (odd : Bool) : ∃ fl : Value, (∀ K : Value -> Prop, K fl -> indexS P T_7_impl_roundMode (.agg ⟨modeCells⟩) (.int .i64 m) fun el => fieldS P T_impl_roundMode el 1 fun f => K f) /\
    ∀ (w : World) (Q : Ending -> World -> Prop), Q (.returned (.bool (modeAway m neg half odd))) w -> CallW P fl [.bool neg, .int .i64 half, .bool odd] w Q := by
  have hm : m = 0 ∨ m = 1 ∨ m = 2 ∨ m = 3 ∨ m = 4 ∨ m = 5 ∨ m = 6 := by omega
  rcases hm with rfl | rfl | rfl | rfl | rfl | rfl | rfl
  · refine ⟨.func (.func n_impl_roundModes_1) #[] #[], fun K hK => ?_, fun w Q hQ => ?_⟩
    · have e : (indexS P T_7_impl_roundMode (.agg ⟨modeCells⟩) (.int .i64 0) fun el => fieldS P T_impl_roundMode el 1 fun f => K f) = (((0 : Int) <= 0 /\ (0 : Int) < (7 : Nat)) /\ ∃ v, (Value.agg #[modeCells.getD 0 .nilFunc, modeCells.getD 1 .nilFunc] = v) /\ fieldS P T_impl_roundMode v 1 fun f => K f) := by kernel_rfl
      rw [e]
      refine ⟨⟨by omega, by omega⟩, _, rfl, ?_⟩
      have e2 : (fieldS P T_impl_roundMode (Value.agg #[modeCells.getD 0 .nilFunc, modeCells.getD 1 .nilFunc]) 1 fun f => K f) = K (modeCells.getD 1 .nilFunc) := by kernel_rfl
      rw [e2]
      exact hK
    · refine ⟨_, [], [], rfl, by kernel_rfl, Calls.mono (impl_roundModes_1_n neg half odd w) ?_⟩
      rintro e w' ⟨v, he, hv, hw⟩
      subst he; subst hv; subst hw
      exact hQ
  · refine ⟨.func (.func n_impl_roundModes_2) #[] #[], fun K hK => ?_, fun w Q hQ => ?_⟩
    · have e : (indexS P T_7_impl_roundMode (.agg ⟨modeCells⟩) (.int .i64 1) fun el => fieldS P T_impl_roundMode el 1 fun f => K f) = (((0 : Int) <= 1 /\ (1 : Int) < (7 : Nat)) /\ ∃ v, (Value.agg #[modeCells.getD 2 .nilFunc, modeCells.getD 3 .nilFunc] = v) /\ fieldS P T_impl_roundMode v 1 fun f => K f) := by kernel_rfl
      rw [e]
      refine ⟨⟨by omega, by omega⟩, _, rfl, ?_⟩
      have e2 : (fieldS P T_impl_roundMode (Value.agg #[modeCells.getD 2 .nilFunc, modeCells.getD 3 .nilFunc]) 1 fun f => K f) = K (modeCells.getD 3 .nilFunc) := by kernel_rfl
      rw [e2]
      exact hK
    · refine ⟨_, [], [], rfl, by kernel_rfl, Calls.mono (impl_roundModes_2_n neg half odd w) ?_⟩
      rintro e w' ⟨v, he, hv, hw⟩
      subst he; subst hv; subst hw
      exact hQ
  · refine ⟨.func (.func n_impl_roundModes_3) #[] #[], fun K hK => ?_, fun w Q hQ => ?_⟩
    · have e : (indexS P T_7_impl_roundMode (.agg ⟨modeCells⟩) (.int .i64 2) fun el => fieldS P T_impl_roundMode el 1 fun f => K f) = (((0 : Int) <= 2 /\ (2 : Int) < (7 : Nat)) /\ ∃ v, (Value.agg #[modeCells.getD 4 .nilFunc, modeCells.getD 5 .nilFunc] = v) /\ fieldS P T_impl_roundMode v 1 fun f => K f) := by kernel_rfl
      rw [e]
      refine ⟨⟨by omega, by omega⟩, _, rfl, ?_⟩
      have e2 : (fieldS P T_impl_roundMode (Value.agg #[modeCells.getD 4 .nilFunc, modeCells.getD 5 .nilFunc]) 1 fun f => K f) = K (modeCells.getD 5 .nilFunc) := by kernel_rfl
      rw [e2]
      exact hK
    · refine ⟨_, [], [], rfl, by kernel_rfl, Calls.mono (impl_roundModes_3_n neg half odd w) ?_⟩
      rintro e w' ⟨v, he, hv, hw⟩
      subst he; subst hv; subst hw
      exact hQ
  · refine ⟨.func (.func n_impl_roundModes_4) #[] #[], fun K hK => ?_, fun w Q hQ => ?_⟩
    · have e : (indexS P T_7_impl_roundMode (.agg ⟨modeCells⟩) (.int .i64 3) fun el => fieldS P T_impl_roundMode el 1 fun f => K f) = (((0 : Int) <= 3 /\ (3 : Int) < (7 : Nat)) /\ ∃ v, (Value.agg #[modeCells.getD 6 .nilFunc, modeCells.getD 7 .nilFunc] = v) /\ fieldS P T_impl_roundMode v 1 fun f => K f) := by kernel_rfl
      rw [e]
      refine ⟨⟨by omega, by omega⟩, _, rfl, ?_⟩
      have e2 : (fieldS P T_impl_roundMode (Value.agg #[modeCells.getD 6 .nilFunc, modeCells.getD 7 .nilFunc]) 1 fun f => K f) = K (modeCells.getD 7 .nilFunc) := by kernel_rfl
      rw [e2]
      exact hK
    · refine ⟨_, [], [], rfl, by kernel_rfl, Calls.mono (impl_roundModes_4_n neg half odd w) ?_⟩
      rintro e w' ⟨v, he, hv, hw⟩
      subst he; subst hv; subst hw
      exact hQ
  · refine ⟨.func (.func n_impl_roundModes_5) #[] #[], fun K hK => ?_, fun w Q hQ => ?_⟩
    · have e : (indexS P T_7_impl_roundMode (.agg ⟨modeCells⟩) (.int .i64 4) fun el => fieldS P T_impl_roundMode el 1 fun f => K f) = (((0 : Int) <= 4 /\ (4 : Int) < (7 : Nat)) /\ ∃ v, (Value.agg #[modeCells.getD 8 .nilFunc, modeCells.getD 9 .nilFunc] = v) /\ fieldS P T_impl_roundMode v 1 fun f => K f) := by kernel_rfl
      rw [e]
      refine ⟨⟨by omega, by omega⟩, _, rfl, ?_⟩
      have e2 : (fieldS P T_impl_roundMode (Value.agg #[modeCells.getD 8 .nilFunc, modeCells.getD 9 .nilFunc]) 1 fun f => K f) = K (modeCells.getD 9 .nilFunc) := by kernel_rfl
      rw [e2]
      exact hK
    · refine ⟨_, [], [], rfl, by kernel_rfl, Calls.mono (impl_roundModes_5_n neg half odd w) ?_⟩
      rintro e w' ⟨v, he, hv, hw⟩
      subst he; subst hv; subst hw
      exact hQ
  · refine ⟨.func (.func n_impl_roundModes_6) #[] #[], fun K hK => ?_, fun w Q hQ => ?_⟩
    · have e : (indexS P T_7_impl_roundMode (.agg ⟨modeCells⟩) (.int .i64 5) fun el => fieldS P T_impl_roundMode el 1 fun f => K f) = (((0 : Int) <= 5 /\ (5 : Int) < (7 : Nat)) /\ ∃ v, (Value.agg #[modeCells.getD 10 .nilFunc, modeCells.getD 11 .nilFunc] = v) /\ fieldS P T_impl_roundMode v 1 fun f => K f) := by kernel_rfl
      rw [e]
      refine ⟨⟨by omega, by omega⟩, _, rfl, ?_⟩
      have e2 : (fieldS P T_impl_roundMode (Value.agg #[modeCells.getD 10 .nilFunc, modeCells.getD 11 .nilFunc]) 1 fun f => K f) = K (modeCells.getD 11 .nilFunc) := by kernel_rfl
      rw [e2]
      exact hK
    · refine ⟨_, [], [], rfl, by kernel_rfl, Calls.mono (impl_roundModes_6_n neg half odd w) ?_⟩
      rintro e w' ⟨v, he, hv, hw⟩
      subst he; subst hv; subst hw
      exact hQ
  · refine ⟨.func (.func n_impl_roundModes_7) #[] #[], fun K hK => ?_, fun w Q hQ => ?_⟩
    · have e : (indexS P T_7_impl_roundMode (.agg ⟨modeCells⟩) (.int .i64 6) fun el => fieldS P T_impl_roundMode el 1 fun f => K f) = (((0 : Int) <= 6 /\ (6 : Int) < (7 : Nat)) /\ ∃ v, (Value.agg #[modeCells.getD 12 .nilFunc, modeCells.getD 13 .nilFunc] = v) /\ fieldS P T_impl_roundMode v 1 fun f => K f) := by kernel_rfl
      rw [e]
      refine ⟨⟨by omega, by omega⟩, _, rfl, ?_⟩
      have e2 : (fieldS P T_impl_roundMode (Value.agg #[modeCells.getD 12 .nilFunc, modeCells.getD 13 .nilFunc]) 1 fun f => K f) = K (modeCells.getD 13 .nilFunc) := by kernel_rfl
      rw [e2]
      exact hK
    · refine ⟨_, [], [], rfl, by kernel_rfl, Calls.mono (impl_roundModes_7_n neg half odd w) ?_⟩
      rintro e w' ⟨v, he, hv, hw⟩
      subst he; subst hv; subst hw
      exact hQ
end Go.Proofs.YtfehpaekbbmkcaaGreatDoor
namespace Go.Proofs.YtfehpaekbbmkcaaGreatDoor
open Go Go.Proofs.YtfehpaekbbmkcaaGreatDoor.Sx
def modeOk (m : Int) : Bool := decide (0 <= m /\ m <= 6)
theorem rround_sign {n : Int} {d : Nat} {m : Int} (h : rround n d m ≠ 0) : decide (n < 0) = decide (rround n d m < 0) := by
  have e : rround n d m = if n < 0 then -((roundM n d m : Nat) : Int) else ((roundM n d m : Nat) : Int) := rfl
  by_cases hn : n < 0
  · rw [if_pos hn] at e
    rw [decide_eq_true hn, decide_eq_true (show rround n d m < 0 by omega)]
  · rw [if_neg hn] at e
    rw [decide_eq_false hn, decide_eq_false (show ¬ rround n d m < 0 by omega)]
theorem roundM_len {n : Int} {d : Nat} {m : Int} {k : Nat} (hd : 0 < d) (h : (digs n.natAbs).length <= k) : (digs (roundM n d m)).length <= k + 1 := by
  apply digs_len
  have h1 := lt_of_len h
  have h2 := roundM_le n d m
  have h3 := Nat.div_le_self n.natAbs d
  have h4 : 0 < 1000000000 ^ k := Nat.pow_pos (by decide)
  rw [Nat.pow_succ]
  omega
theorem impl_isMode_c (m : Int) (w : World) : Ret P n_impl_isMode [.int .i64 m] w fun v w' => v = .bool (modeOk m) /\ w' = w := by
  refine impl_isMode_ret ?_
  unfold impl_isMode
  refine ifD (fun h => ⟨?_, rfl⟩) (fun h => ⟨?_, rfl⟩)
  · exact congrArg Value.bool (decide_eq_decide.2 (by omega))
  · rw [modeOk, decide_eq_false (by omega)]
theorem spec_l06Mode_c (m : Int) (w : World) : Ret P n_spec_l06Mode [.int .i64 m] w fun v w' => v = .bool (modeOk m) /\ w' = w := by
  refine spec_l06Mode_ret ?_
  unfold spec_l06Mode
  refine Ret.at (spec_l01In_c m 0 6 w) ?_
  rintro v w1 ⟨hv, hw⟩
  subst hv
  exact ⟨_, rfl, rfl, hw⟩
set_option maxRecDepth 100000 in
theorem impl_roundQuotient_n {w : World} {xs : List Value} {x : Int} {d : Nat} {p : Option Addr} {n c : Nat} {m : Int} (h : Reps w xs (enc x)) (k : IntsR w p n c (digs d)) (hd : 0 < d) (hx : (digs x.natAbs).length <= 40) (hn : n <= 40) (hm : modeOk m = true) :
    Ret P n_impl_roundQuotient [.agg ⟨xs⟩, .slice p n c, .int .i64 m] w fun v w' => ∃ vs f, v = .agg ⟨vs⟩ /\ Owns w' w.heap.size vs (enc (rround x d m)) f /\ f.Nodup /\ Ext w w' := by
  have hm' := of_decide_eq_true hm
  obtain ⟨a0, ap, an, ac, az, rfl, hda, ha⟩ := open_Signed h (enc_code _)
  simp only [enc, List.cons.injEq, D0.bool.injEq, D0.ints.injEq, and_true] at hda
  obtain ⟨rfl, rfl⟩ := hda
  have hla := ha.1; have hlk := k.1
  have hd0 := digs_pos_len.2 (show d ≠ 0 by omega)
  refine impl_roundQuotient_ret ?_
  unfold impl_roundQuotient
  intro r w1 hn1 r1 w2 hn2
  have e1 := hn1.r_eq; have e2 := hn2.r_eq; have z1 := hn1.size; have z2 := hn2.size
  have X := hn1.ext.trans hn2.ext
  have b0 := hn1.blk.ext hn2.ext; have b1 := hn2.blk
  have fin : ∀ W p' n' c' M, Ext w2 W -> Own W w2.heap.size T_int 1 p' n' c' ((digs M).map (Value.int .i64)) -> M = roundM x d m -> impl_roundQuotient_j0 r r1 p' n' c' W fun v w' => ∃ vs f, v = .agg ⟨vs⟩ /\ Owns w' w.heap.size vs (enc (rround x d m)) f /\ f.Nodup /\ Ext w w' := by
    intro W p' n' c' M hW hO hM
    unfold impl_roundQuotient_j0
    refine ⟨_, (b0.ext hW).loadAt 0 rfl (by kernel_rfl) rfl, ?_⟩
    refine Ret.at (impl_signed_c (neg := decide (x < 0)) hO.ints.1) ?_
    rintro v w5 ⟨hv, y5⟩
    subst hv
    obtain ⟨W', st, ld, ow, xx, _, _⟩ := agg_end (t := T_impl_Signed) (b1.ext (hW.trans y5)) (X.trans (hW.trans y5)) (by omega) (own_int (hO.ext y5) (z := rround x d m) (by rw [rround_abs]; exact hM) rround_sign) (by kernel_rfl) rfl (by omega) (by omega)
    exact ⟨_, _, _, _, rfl, W', st, _, _, _, _, ld, _, _, rfl, ow, nodup_opt p', xx⟩
  refine ⟨_, _, _, b0.loadAt 1 rfl (by kernel_rfl) rfl, ?_⟩
  refine Ret.at (impl_natDiv_c (ha.ext X) (k.ext X) (digs_canon _) (digs_canon _) (by omega) (by omega) (by omega)) ?_
  rintro v w3 ⟨p3, n3, c3, p4, n4, c4, hv, oq, or', _, y3⟩
  subst hv
  rw [val_div] at oq
  rw [val_mod] at or'
  have lq := oq.ints.1; have lr := or'.ints.1
  have D := Ext.drew w3
  have Y := y3.trans D
  have q50 : n3 <= 40 := by have := digs_mono_len (Nat.div_le_self x.natAbs d); omega
  have r50 : n4 <= 40 := by have := digs_mono_len (Nat.le_of_lt (Nat.mod_lt x.natAbs hd)); omega
  refine ⟨_, _, _, _, _, _, rfl, ifD (fun hrem => ?_) (fun hno => ifF (fin _ _ _ _ _ Y (oq.ext D) ?_))⟩
  · have hne : x.natAbs % d ≠ 0 := digs_pos_len.1 (by omega)
    obtain ⟨fl, hix, hcall⟩ := mode_call hm'.1 hm'.2 (decide (x < 0)) (cmpL (digs (x.natAbs % d + x.natAbs % d)) (digs d)) (decide (x.natAbs / d % 2 = 1))
    refine Ret.at (impl_roundModes_n _) ?_
    rintro v w4 ⟨hv, y4⟩
    subst hv
    refine ⟨_, _, _, _, _, _, _, _, _, _, _, _, _, _, rfl, y4, hix _ ⟨_, fun W hW => ((b0.ext Y).ext hW).loadAt 0 rfl (by kernel_rfl) rfl, ?_⟩⟩
    refine Ret.at (impl_natAdd_c ((or'.ext D).ext y4).ints ((or'.ext D).ext y4).ints (digs_limbs _) (digs_limbs _) (by omega) (by omega)) ?_
    rintro v w5 ⟨p5, n5, c5, hv, o5, y5⟩
    subst hv
    rw [val_add'] at o5
    refine ⟨_, _, _, rfl, y5, ?_⟩
    refine Ret.at (impl_natCmp_c o5.ints (k.ext ((X.trans Y).trans (y4.trans y5)))) ?_
    rintro v w6 ⟨hv, y6⟩
    subst hv
    refine ⟨_, rfl, y6, ?_⟩
    have Y6 := (D.trans (y4.trans y5)).trans y6
    refine Ret.at (impl_NatEven_n (oq.ext Y6).ints (by omega)) ?_
    rintro v w7 ⟨hv, y7⟩
    subst hv
    refine ⟨_, rfl, y7, ?_⟩
    rw [odd_even]
    have Y7 := Y6.trans y7
    refine hcall _ _ ⟨_, rfl, fun hyes => ?_, fun hno => fin _ _ _ _ _ (y3.trans Y7) (oq.ext Y7) ?_⟩
    · intro r8 w8 hn8
      refine Ret.at (impl_natAdd_c ((oq.ext Y7).ext hn8.ext).ints (digs_one_r hn8.blk) (digs_limbs _) (digs_limbs _) (by omega) (by omega)) ?_
      rintro v w9 ⟨p9, n9, c9, hv, o9, y9⟩
      subst hv
      rw [val_add'] at o9
      have l8 := ((y3.trans Y7).trans hn8.ext).le
      refine ⟨_, _, _, rfl, fin _ _ _ _ _ (((y3.trans Y7).trans hn8.ext).trans y9) (o9.mono l8) ?_⟩
      rw [roundM, if_pos ⟨hne, hyes⟩]
    · rw [roundM, if_neg (fun hh => by rw [hh.2] at hno; cases hno)]
  · have heq : x.natAbs % d = 0 := Decidable.byContradiction fun hh => by
      have := digs_pos_len.2 hh
      omega
    rw [roundM, if_neg (fun hh => hh.1 heq)]
theorem spec_l06Away_n {w : World} {neg : Bool} {p1 p2 p3 : Option Addr} {n1 c1 n2 c2 n3 c3 : Nat} {Q R' d : Nat} {m : Int} (h1 : IntsR w p1 n1 c1 (digs Q)) (h2 : IntsR w p2 n2 c2 (digs R')) (h3 : IntsR w p3 n3 c3 (digs d)) (l1 : n1 <= 50) (l2 : n2 <= 50) :
    Ret P n_spec_l06Away [.bool neg, .slice p1 n1 c1, .slice p2 n2 c2, .slice p3 n3 c3, .int .i64 m] w fun v w' => v = .bool (modeAway m neg (cmpL (digs (R' + R')) (digs d)) (decide (Q % 2 = 1))) /\ Ext w w' := by
  refine spec_l06Away_ret ?_
  unfold spec_l06Away
  refine Ret.at (spec_l02Add_n h2 h2 (by omega) (by omega)) ?_
  rintro v w1 ⟨p4, n4, c4, hv, i4, y1⟩
  subst hv
  refine ⟨_, _, _, rfl, ?_⟩
  refine Ret.at (spec_l02Cmp_c i4 (h3.ext y1)) ?_
  rintro v w2 ⟨hv, y2⟩
  subst hv
  have X := y1.trans y2
  generalize cmpL (digs (R' + R')) (digs d) = half
  refine ⟨_, rfl, ifD (fun e0 => ⟨by rw [modeAway, if_pos e0], X⟩) (fun e0 => ifD (fun e1 => ⟨by rw [modeAway, if_neg e0, if_pos e1], X⟩) (fun e1 => ifD (fun e2 => ⟨by rw [modeAway, if_neg e0, if_neg e1, if_pos e2], X⟩) (fun e2 => ifD (fun e3 => ⟨by rw [modeAway, if_neg e0, if_neg e1, if_neg e2, if_pos e3], X⟩) (fun e3 => ifD (fun e4 => ⟨by rw [modeAway, if_neg e0, if_neg e1, if_neg e2, if_neg e3, if_pos e4], X⟩) (fun e4 => ifD (fun e5 => ⟨by rw [modeAway, if_neg e0, if_neg e1, if_neg e2, if_neg e3, if_neg e4, if_pos e5], X⟩) (fun e5 => ?_))))))⟩
  have e6 : modeAway m neg half (decide (Q % 2 = 1)) = (decide (0 < half) || (decide (half = 0) && decide (Q % 2 = 1))) := by rw [modeAway, if_neg e0, if_neg e1, if_neg e2, if_neg e3, if_neg e4, if_neg e5]
  rw [e6]
  refine ifD (fun h => ⟨by rw [decide_eq_true h]; rfl, X⟩) (fun h => ifD (fun h0 => ?_) (fun h0 => ⟨by rw [decide_eq_false h, decide_eq_false h0]; rfl, X⟩))
  refine Ret.at (spec_NatEven_n (h1.ext X) l1) ?_
  rintro v w3 ⟨hv, y3⟩
  subst hv
  refine ⟨_, rfl, ?_, X.trans y3⟩
  rw [odd_even, decide_eq_false h, decide_eq_true h0]
  rfl
theorem spec_l06Round_n {w : World} {xs : List Value} {N : Int} {D : Nat} {m : Int} (h : Reps w xs (rmk N D)) (hok : ratOk (rmk N D) = true) :
    Ret P n_spec_l06Round [.agg ⟨xs⟩, .int .i64 m] w fun v w' => ∃ vs f, v = .agg ⟨vs⟩ /\ Owns w' w.heap.size vs (enc (rround N D m)) f /\ f.Nodup /\ Ext w w' := by
  obtain ⟨p1, n1, c1, p2, n2, c2, rfl, i1, i2, li1, li2, he, hd⟩ := rmk_open h hok
  have ei1 := i1.1; have ei2 := i2.1
  have hd0 := digs_pos_len.2 (show D ≠ 0 by omega)
  refine spec_l06Round_ret ?_
  unfold spec_l06Round
  intro r w1 hn1 r1 w2 hn2
  have e1 := hn1.r_eq; have e2 := hn2.r_eq; have z1 := hn1.size; have z2 := hn2.size
  have X := hn1.ext.trans hn2.ext
  have b0 := hn1.blk.ext hn2.ext; have b1 := hn2.blk
  have fin : ∀ W p' n' c' M, Ext w2 W -> IntsR W p' n' c' (digs M) -> M = roundM N D m -> spec_l06Round_j0 r r1 p' n' c' W fun v w' => ∃ vs f, v = .agg ⟨vs⟩ /\ Owns w' w.heap.size vs (enc (rround N D m)) f /\ f.Nodup /\ Ext w w' := by
    intro W p' n' c' M hW hI hM
    unfold spec_l06Round_j0
    refine ⟨_, (b0.ext hW).loadAt 0 rfl (by kernel_rfl) rfl, ?_⟩
    refine Ret.at (spec_l04Make_c hI (digs_limbs _)) ?_
    rintro v w5 ⟨b5, p5, n5, c5, hv, hb5, o5, y5⟩
    subst hv
    rw [val_digs, Int.toNat_natCast] at hb5 o5
    have hl5 : (digs M).length <= 19 := by rw [hM]; exact roundM_len hd (by omega)
    have ecap : capL (digs M) = digs M := by unfold capL; rw [if_pos (by omega)]
    rw [ecap] at hb5 o5
    have lW := hW.le
    have ho : Owns w5 W.heap.size [.bool b5, .slice p5 n5 c5] (enc (rround N D m)) (p5.map (·.block)).toList := by
      rw [hb5]
      exact own_int o5 (z := rround N D m) (by rw [rround_abs]; exact hM) rround_sign
    obtain ⟨W', st, ld, ow, xx, _, _⟩ := agg_end (t := T_impl_Signed) (b1.ext (hW.trans y5)) (X.trans (hW.trans y5)) (by omega) ho (by kernel_rfl) rfl (by omega) (by omega)
    exact ⟨_, _, _, _, rfl, W', st, _, _, _, _, ld, _, _, rfl, ow, nodup_opt p5, xx⟩
  refine ⟨_, _, _, b0.loadAt 1 rfl (by kernel_rfl) rfl, _, _, _, b0.loadAt 2 rfl (by kernel_rfl) rfl, ?_⟩
  refine Ret.at (spec_l03Div_c (i1.ext X) (i2.ext X) (digs_limbs _) (digs_canon _) (by omega) (by omega) (by omega)) ?_
  rintro v w3 ⟨p3, n3, c3, p4, n4, c4, hv, oq, or', y3⟩
  subst hv
  rw [val_div] at oq
  rw [val_mod] at or'
  have lq := oq.1; have lr := or'.1
  have q50 : n3 <= 40 := by have := digs_mono_len (Nat.div_le_self N.natAbs D); omega
  have r50 : n4 <= 40 := by have := digs_mono_len (Nat.le_of_lt (Nat.mod_lt N.natAbs hd)); omega
  refine ⟨_, _, _, _, _, _, rfl, ifD (fun hrem => ?_) (fun hno => ifF (fin _ _ _ _ _ y3 oq ?_))⟩
  · have hne : N.natAbs % D ≠ 0 := digs_pos_len.1 (by omega)
    refine ⟨_, (b0.ext y3).loadAt 0 rfl (by kernel_rfl) rfl, _, _, _, (b0.ext y3).loadAt 2 rfl (by kernel_rfl) rfl, ?_⟩
    refine Ret.at (spec_l06Away_n oq or' (i2.ext (X.trans y3)) (by omega) (by omega)) ?_
    rintro v w4 ⟨hv, y4⟩
    subst hv
    refine ⟨_, rfl, fun hyes => ?_, fun hno => fin _ _ _ _ _ (y3.trans y4) (oq.ext y4) ?_⟩
    · intro r8 w8 hn8
      refine Ret.at (spec_l02Add_n ((oq.ext y4).ext hn8.ext) (digs_one_r hn8.blk) (by omega) (by omega)) ?_
      rintro v w9 ⟨p9, n9, c9, hv, i9, y9⟩
      subst hv
      refine ⟨_, _, _, rfl, fin _ _ _ _ _ (((y3.trans y4).trans hn8.ext).trans y9) i9 ?_⟩
      rw [roundM, if_pos ⟨hne, hyes⟩]
    · rw [roundM, if_neg (fun hh => by rw [hh.2] at hno; cases hno)]
  · have heq : N.natAbs % D = 0 := Decidable.byContradiction fun hh => by
      have := digs_pos_len.2 hh
      omega
    rw [roundM, if_neg (fun hh => hh.1 heq)]
theorem impl_RatRound_n {w : World} {xs : List Value} {N : Int} {D : Nat} {m : Int} (h : Reps w xs (rmk N D)) (hok : ratOk (rmk N D) = true) :
    Ret P n_impl_RatRound [.agg ⟨xs⟩, .int .i64 m] w fun v w' => ∃ vs f, v = .tuple #[.agg ⟨vs⟩, .bool (modeOk m)] /\ Owns w' w.heap.size vs (enc (if modeOk m then rround N D m else 0)) f /\ f.Nodup /\ Ext w w' := by
  have hr := h
  obtain ⟨p1, n1, c1, p2, n2, c2, rfl, i1, i2, li1, li2, he, hd⟩ := rmk_open h hok
  have ei1 := i1.1; have ei2 := i2.1
  refine impl_RatRound_ret ?_
  unfold impl_RatRound
  intro r w1 hn1 r1 w2 hn2
  have e1 := hn1.r_eq; have e2 := hn2.r_eq; have z1 := hn1.size; have z2 := hn2.size
  have X := hn1.ext.trans hn2.ext
  have b0 := hn1.blk.ext hn2.ext; have b1 := hn2.blk
  refine ⟨_, _, _, _, _, _, _, b0.loadA0 (by kernel_rfl), ?_⟩
  refine Ret.at (impl_RatOk_c (hr.ext X) (rmk_code _ _)) ?_
  rintro v w3 ⟨hv, y3⟩
  subst hv
  rw [hok]
  refine ⟨_, rfl, ifN (fun hh => absurd hh (by simp)) (fun _ => ?_)⟩
  refine Ret.at (impl_isMode_c m _) ?_
  rintro v w4 ⟨hv, hw⟩
  subst hv; subst hw
  have X3 := X.trans y3
  have l3 := y3.le
  have b0 := b0.ext y3; have b1 := b1.ext y3
  refine ⟨_, rfl, ifN (fun hno => ?_) (fun hyes => ?_)⟩
  · obtain ⟨W', st, ld, ow, xx, _, _⟩ := agg_end (t := T_impl_Signed) b1 X3 (by omega) (own_sgn0 w4 (r1 + 1)) (by kernel_rfl) rfl (by omega) (by omega)
    exact ⟨W', st, _, _, _, _, ld, _, [], by rw [hno], by rw [hno]; exact ow, List.nodup_nil, xx⟩
  · refine ⟨_, _, _, _, b0.loadAAt 0 [.bool (decide (N < 0)), .slice p1 n1 c1] rfl (by kernel_rfl) rfl, _, _, _, b0.loadAt 2 rfl (by kernel_rfl) rfl, ?_⟩
    refine Ret.at (impl_roundQuotient_n (he.ext X3) (i2.ext X3) hd (by omega) (by omega) hyes) ?_
    rintro v w5 ⟨vs5, f5, hv, ho5, nd5, y5⟩
    subst hv
    have hr5 := ho5.reps
    obtain ⟨s0, sp, sn, sc, sz, rfl, _, _⟩ := open_Signed hr5 (enc_code _)
    obtain ⟨W', st, ld, ow, xx, _, _⟩ := agg_end (t := T_impl_Signed) (b1.ext y5) (X3.trans y5) (by omega) ho5 (by kernel_rfl) rfl (by omega) (by omega)
    exact ⟨_, _, _, _, rfl, W', st, _, _, _, _, ld, _, f5, by rw [hyes], by rw [hyes]; exact ow, nd5, xx⟩
theorem spec_RatRound_n {w : World} {xs : List Value} {N : Int} {D : Nat} {m : Int} (h : Reps w xs (rmk N D)) (hok : ratOk (rmk N D) = true) :
    Ret P n_spec_RatRound [.agg ⟨xs⟩, .int .i64 m] w fun v w' => ∃ vs f, v = .tuple #[.agg ⟨vs⟩, .bool (modeOk m)] /\ Owns w' w.heap.size vs (enc (if modeOk m then rround N D m else 0)) f /\ f.Nodup /\ Ext w w' := by
  have hr := h
  obtain ⟨p1, n1, c1, p2, n2, c2, rfl, i1, i2, li1, li2, he, hd⟩ := rmk_open h hok
  have ei1 := i1.1; have ei2 := i2.1
  refine spec_RatRound_ret ?_
  unfold spec_RatRound
  intro r w1 hn1 r1 w2 hn2
  have e1 := hn1.r_eq; have e2 := hn2.r_eq; have z1 := hn1.size; have z2 := hn2.size
  have X := hn1.ext.trans hn2.ext
  have b0 := hn1.blk.ext hn2.ext; have b1 := hn2.blk
  refine ⟨_, _, _, _, _, _, _, b0.loadA0 (by kernel_rfl), ?_⟩
  refine Ret.at (spec_RatOk_c (hr.ext X) (rmk_code _ _)) ?_
  rintro v w3 ⟨hv, y3⟩
  subst hv
  rw [hok]
  refine ⟨_, rfl, ifN (fun hh => absurd hh (by simp)) (fun _ => ?_)⟩
  refine Ret.at (spec_l06Mode_c m _) ?_
  rintro v w4 ⟨hv, hw⟩
  subst hv; subst hw
  have X3 := X.trans y3
  have l3 := y3.le
  have b0 := b0.ext y3; have b1 := b1.ext y3
  refine ⟨_, rfl, ifN (fun hno => ?_) (fun hyes => ?_)⟩
  · obtain ⟨W', st, ld, ow, xx, _, _⟩ := agg_end (t := T_impl_Signed) b1 X3 (by omega) (own_sgn0 w4 (r1 + 1)) (by kernel_rfl) rfl (by omega) (by omega)
    exact ⟨W', st, _, _, _, _, ld, _, [], by rw [hno], by rw [hno]; exact ow, List.nodup_nil, xx⟩
  · refine ⟨_, _, _, _, _, _, _, b0.loadA0 (by kernel_rfl), ?_⟩
    refine Ret.at (spec_l06Round_n (hr.ext X3) hok) ?_
    rintro v w5 ⟨vs5, f5, hv, ho5, nd5, y5⟩
    subst hv
    have hr5 := ho5.reps
    obtain ⟨s0, sp, sn, sc, sz, rfl, _, _⟩ := open_Signed hr5 (enc_code _)
    obtain ⟨W', st, ld, ow, xx, _, _⟩ := agg_end (t := T_impl_Signed) (b1.ext y5) (X3.trans y5) (by omega) ho5 (by kernel_rfl) rfl (by omega) (by omega)
    exact ⟨_, _, _, _, rfl, W', st, _, _, _, _, ld, _, f5, by rw [hyes], by rw [hyes]; exact ow, nd5, xx⟩
end Go.Proofs.YtfehpaekbbmkcaaGreatDoor
namespace Go.Proofs.YtfehpaekbbmkcaaGreatDoor
open Go Go.Proofs.YtfehpaekbbmkcaaGreatDoor.Sx
theorem two_end {t1 t2 : TypeId} {w W : World} {r1 r2 : Nat} {e1 e2 : TypeId} {o1 o2 xs1 xs2 : List Value} {d1 d2 : List D0} {f1 f2 : List Nat} {B : Nat} (hb1 : Blk W r1 e1 o1) (hb2 : Blk W r2 e2 o2) (X : Ext w W)
    (ho1 : Owns W B xs1 d1 f1) (ho2 : Owns W B xs2 d2 f2) (ht1 : aggT P t1 xs1.length = true) (hl1 : xs1.length = o1.length) (ht2 : aggT P t2 xs2.length = true) (hl2 : xs2.length = o2.length) (hne : r1 ≠ r2) (hr1 : w.heap.size <= r1) (hr2 : w.heap.size <= r2) (hB1 : r1 < B) (hB2 : r2 < B) (hwB : w.heap.size <= B) :
    ∃ W1 W2, Stores P t1 ⟨r1, 0, none⟩ (.agg ⟨xs1⟩) W W1 /\ Chg [r1] W W1 /\ Stores P t2 ⟨r2, 0, none⟩ (.agg ⟨xs2⟩) W1 W2 /\ Loads P t1 ⟨r1, 0, none⟩ (.agg ⟨xs1⟩) W2 /\ Loads P t2 ⟨r2, 0, none⟩ (.agg ⟨xs2⟩) W2 /\ Owns W2 w.heap.size xs1 d1 f1 /\ Owns W2 w.heap.size xs2 d2 f2 /\ Ext w W2 := by
  obtain ⟨W1, st1, hb1', ch1, _⟩ := hb1.storeA0 (P := P) (t := t1) (xs := xs1) ht1 hl1 ho1.reps.cells1
  obtain ⟨W2, st2, hb2', ch2, _⟩ := (hb2.chg ch1 (by simp; omega)).storeA0 (P := P) (t := t2) (xs := xs2) ht2 hl2 ho2.reps.cells1
  exact ⟨W1, W2, st1, ch1, st2, (hb1'.chg ch2 (by simp; omega)).loadA0 ht1, hb2'.loadA0 ht2, ((ho1.chg1 ch1 hB1).chg1 ch2 hB2).mono hwB, ((ho2.chg1 ch1 hB1).chg1 ch2 hB2).mono hwB, (X.chg ch1 (by simp; exact hr1)).chg ch2 (by simp; exact hr2)⟩
theorem own_money0 (W : World) (B : Nat) : Owns W B [.string ByteArray.empty, .bool false, .slice none 0 0] zeroMoney [] :=
  Owns.append (Owns.str _ _ _) (Owns.append (Owns.bool _ _ false) (Owns.ints (zs := []) (Own.nil W B T_int 1)))
theorem Owns.notin {w : World} {B : Nat} {r : Nat} {e : TypeId} {cs : List Value} (hb : Blk w r e cs) (he : e ≠ T_int) : ∀ {vs : List Value} {ds : List D0} {f : List Nat}, Owns w B vs ds f -> r ∉ f
  | [], [], f, h => by rw [show f = [] from h]; simp
  | [], _ :: _, _, h => h.elim
  | _ :: _, [], _, h => h.elim
  | v :: vs, d :: ds, _, h => by
    obtain ⟨f1, f2, rfl, h1, h2⟩ := h
    have ih := Owns.notin hb he h2
    intro hm
    rcases List.mem_append.1 hm with hm | hm
    · cases d <;> simp only [Own0] at h1
      case ints zs =>
        obtain ⟨p, n, c, _, ho, hf⟩ := h1
        rw [hf] at hm
        have hm := opt_mem hm
        rcases ho.2 with k1 | ⟨g, cap, cur, k1, k2, k3, k4⟩
        · simp only [Value.slice.injEq] at k1
          rw [k1.1.1] at hm
          simp at hm
        · simp only [Value.slice.injEq] at k1
          rw [k1.1] at hm
          simp at hm
          subst hm
          rw [show w.heap[g]? = _ from hb] at k3
          simp only [Option.some.injEq, Obj.cells.injEq] at k3
          exact he k3.2.1
      all_goals (rw [h1.2] at hm; simp at hm)
    · exact ih hm
def rr (N : Int) (D : Nat) (m : Int) : Int := if modeOk m then rround N D m else 0
def restR (N : Int) (D : Nat) (m : Int) : List D0 := redR (N * ((1 : Nat) : Int) + -(rround N D m) * (D : Int)) (D * 1)
def rs (N : Int) (D : Nat) (m : Int) : List D0 := if modeOk m then restR N D m else rat0
def rmOk (cur : ByteArray) (N : Int) (D : Nat) (m : Int) : Bool := modeOk m && moneyOk (.str cur :: enc (rround N D m))
def rmMoney (cur : ByteArray) (N : Int) (D : Nat) (m : Int) : List D0 := if rmOk cur N D m then .str cur :: enc (rround N D m) else zeroMoney
def rmRest (cur : ByteArray) (N : Int) (D : Nat) (m : Int) : List D0 := if rmOk cur N D m then restR N D m else rat0
theorem one_len1 : (digs 1).length <= 1 := by rw [digs_one]; decide
theorem redR_int {z : Int} (h : (digs z.natAbs).length <= 18) : redR z 1 = rmk z 1 := by
  have h1 : redN z 1 = z := by
    have h2 : Nat.gcd z.natAbs 1 = 1 := Nat.gcd_one_right _
    unfold redN
    rw [h2, Nat.div_one]
    split <;> omega
  have h2 : redD z 1 = 1 := by
    have h2 : Nat.gcd z.natAbs 1 = 1 := Nat.gcd_one_right _
    unfold redD
    rw [h2]
  rw [redR_small h (Nat.le_trans one_len1 (by decide)), h1, h2]
theorem rmk_int_ok {z : Int} (h : (digs z.natAbs).length <= 18) : ratOk (rmk z 1) = true := ratOk_rmk (by decide) (Nat.gcd_one_right _) h (Nat.le_trans one_len1 (by decide))
theorem rr_len {N : Int} {D : Nat} {m : Int} (hd : 0 < D) (h : (digs N.natAbs).length <= 10) : (digs (rr N D m).natAbs).length <= 11 := by
  unfold rr
  split
  · rw [rround_abs]; exact roundM_len hd h
  · rw [Int.natAbs_zero, digs_zero]; simp
theorem rest_len {N z : Int} {D : Nat} (hN : (digs N.natAbs).length <= 10) (hD : (digs D).length <= 6) (hz : (digs z.natAbs).length <= 11) : redOk (N * ((1 : Nat) : Int) + -z * (D : Int)) (D * 1) = true := by
  have h1 : (digs (-z * (D : Int)).natAbs).length <= 17 := by
    rw [Int.natAbs_mul, Int.natAbs_natCast, Int.natAbs_neg]
    exact prod_len hz hD
  have h2 : (digs (N * ((1 : Nat) : Int)).natAbs).length <= 17 := by
    rw [Int.natCast_one, Int.mul_one]; omega
  exact redOk_small (sum_len h2 h1) (by rw [Nat.mul_one]; omega)
theorem spec_l09Make_s {w : World} {B : Nat} {xs : List Value} {z : Int} {f : List Nat} (cur : ByteArray) (h : Owns w B xs (enc z) f) (hnd : f.Nodup) (hB : B <= w.heap.size) :
    Ret P n_spec_l09Make [.string cur, .agg ⟨xs⟩] w fun v w' => ∃ vs f', v = .tuple #[.agg ⟨vs⟩, .bool (moneyOk (.str cur :: enc z))] /\ Owns w' B vs (moneyMk cur z) f' /\ f'.Nodup /\ (∀ k ∈ f', k ∈ f) /\ Ext w w' := by
  have ho := h
  obtain ⟨a0, a1p, a1n, a1c, a1z, rfl, hd, ha⟩ := open_Signed h.reps (enc_code _)
  refine spec_l09Make_ret ?_
  unfold spec_l09Make
  intro r w1 hn1 r1 w2 hn2
  refine ⟨_, _, _, _, (hn1.blk.ext hn2.ext).loadA0 (by kernel_rfl), ?_⟩
  intro r2 w3 hn3
  have e1 := hn1.r_eq; have e2 := hn2.r_eq; have e3 := hn3.r_eq; have s1 := hn1.size; have s2 := hn2.size; have s3 := hn3.size
  obtain ⟨w4, st4, hb4, y4⟩ := hn3.fill (P := P) (t := T_impl_Money) (xs := [.string cur, .bool a0, .slice a1p a1n a1c]) (by simp [Value.oneCell']) (by kernel_rfl) rfl
  have X := (hn1.ext.trans hn2.ext).trans y4
  have k1 := hn2.blk.ext y4
  refine ⟨w4, st4, _, _, _, _, _, hb4.loadA0 (by kernel_rfl), ?_⟩
  have hm : Reps w4 [.string cur, .bool a0, .slice a1p a1n a1c] (.str cur :: enc z) := ⟨rfl, h.reps.ext X⟩
  refine Ret.at (spec_MoneyOk_c hm rfl) ?_
  rintro v w5 ⟨hv, y5⟩
  subst hv
  have X5 := X.trans y5
  refine ⟨_, rfl, ifN (fun hno => ?_) (fun hyes => ?_)⟩
  · obtain ⟨w6, st6, hb6, ch, sz⟩ := (k1.ext y5).storeA0 (P := P) (t := T_impl_Money) (xs := [.string ByteArray.empty, .bool false, .slice none 0 0]) (by kernel_rfl) rfl (by simp [Value.oneCell'])
    refine ⟨w6, st6, _, _, _, _, _, hb6.loadA0 (by kernel_rfl), [.string ByteArray.empty, .bool false, .slice none 0 0], [], by rw [hno], ?_, List.nodup_nil, fun _ hh => by simp at hh, X5.chg ch (by simp; omega)⟩
    unfold moneyMk
    rw [hno]
    exact Owns.append (Owns.str _ _ _) (Owns.append (Owns.bool _ _ false) (Owns.ints (zs := []) (Own.nil w6 B T_int 1)))
  · obtain ⟨w6, st6, hb6, ch, sz⟩ := (k1.ext y5).storeA0 (P := P) (t := T_impl_Money) (xs := [.string cur, .bool a0, .slice a1p a1n a1c]) (by kernel_rfl) rfl (by simp [Value.oneCell'])
    refine ⟨_, _, _, _, _, (hb4.ext y5).loadA0 (by kernel_rfl), w6, st6, _, _, _, _, _, hb6.loadA0 (by kernel_rfl), [.string cur, .bool a0, .slice a1p a1n a1c], f, by rw [hyes], ?_, hnd, fun _ hh => hh, X5.chg ch (by simp; omega)⟩
    unfold moneyMk
    rw [hyes]
    have h5 := ((ho.ext X5).chg ch fun k hk hm => by
      have := (ho.lt k hk).2
      simp at hm; omega)
    exact Owns.append (Owns.str _ _ cur) h5
theorem impl_moneyOf_s {w : World} (ht : Tab w) {B : Nat} {xs : List Value} {z : Int} {f : List Nat} (cur : ByteArray) (h : Owns w B xs (enc z) f) (hnd : f.Nodup) (hB : B <= w.heap.size) :
    Ret P n_impl_moneyOf [.string cur, .agg ⟨xs⟩] w fun v w' => ∃ vs f', v = .tuple #[.agg ⟨vs⟩, .bool (moneyOk (.str cur :: enc z))] /\ Owns w' B vs (moneyMk cur z) f' /\ f'.Nodup /\ (∀ k ∈ f', k ∈ f) /\ Ext w w' := by
  have ho := h
  obtain ⟨a0, a1p, a1n, a1c, a1z, rfl, hd, ha⟩ := open_Signed h.reps (enc_code _)
  refine impl_moneyOf_ret ?_
  unfold impl_moneyOf
  intro r w1 hn1 r1 w2 hn2
  refine ⟨_, _, _, _, (hn1.blk.ext hn2.ext).loadA0 (by kernel_rfl), ?_⟩
  intro r2 w3 hn3
  have e1 := hn1.r_eq; have e2 := hn2.r_eq; have e3 := hn3.r_eq; have s1 := hn1.size; have s2 := hn2.size; have s3 := hn3.size
  obtain ⟨w4, st4, hb4, y4⟩ := hn3.fill (P := P) (t := T_impl_Money) (xs := [.string cur, .bool a0, .slice a1p a1n a1c]) (by simp [Value.oneCell']) (by kernel_rfl) rfl
  have X := (hn1.ext.trans hn2.ext).trans y4
  have k1 := hn2.blk.ext y4
  refine ⟨w4, st4, _, _, _, _, _, hb4.loadA0 (by kernel_rfl), ?_⟩
  have hm : Reps w4 [.string cur, .bool a0, .slice a1p a1n a1c] (.str cur :: enc z) := ⟨rfl, h.reps.ext X⟩
  refine Ret.at (impl_MoneyOk_c (ht.ext X) hm rfl) ?_
  rintro v w5 ⟨hv, y5⟩
  subst hv
  have X5 := X.trans y5
  refine ⟨_, rfl, fun hyes => ?_, fun hno => ?_⟩
  · obtain ⟨w6, st6, hb6, ch, sz⟩ := (k1.ext y5).storeA0 (P := P) (t := T_impl_Money) (xs := [.string cur, .bool a0, .slice a1p a1n a1c]) (by kernel_rfl) rfl (by simp [Value.oneCell'])
    refine ⟨_, _, _, _, _, (hb4.ext y5).loadA0 (by kernel_rfl), w6, st6, _, _, _, _, _, hb6.loadA0 (by kernel_rfl), [.string cur, .bool a0, .slice a1p a1n a1c], f, by rw [hyes], ?_, hnd, fun _ hh => hh, X5.chg ch (by simp; omega)⟩
    unfold moneyMk
    rw [hyes]
    have h5 := ((ho.ext X5).chg ch fun k hk hm => by
      have := (ho.lt k hk).2
      simp at hm; omega)
    exact Owns.append (Owns.str _ _ cur) h5
  · obtain ⟨w6, st6, hb6, ch, sz⟩ := (k1.ext y5).storeA0 (P := P) (t := T_impl_Money) (xs := [.string ByteArray.empty, .bool false, .slice none 0 0]) (by kernel_rfl) rfl (by simp [Value.oneCell'])
    refine ⟨w6, st6, _, _, _, _, _, hb6.loadA0 (by kernel_rfl), [.string ByteArray.empty, .bool false, .slice none 0 0], [], by rw [hno], ?_, List.nodup_nil, fun _ hh => by simp at hh, X5.chg ch (by simp; omega)⟩
    unfold moneyMk
    rw [hno]
    exact Owns.append (Owns.str _ _ _) (Owns.append (Owns.bool _ _ false) (Owns.ints (zs := []) (Own.nil w6 B T_int 1)))
theorem impl_RatRest_n {w : World} {xs : List Value} {N : Int} {D : Nat} {m : Int} (h : Reps w xs (rmk N D)) (hok : ratOk (rmk N D) = true) (hN : (digs N.natAbs).length <= 10) (hD : (digs D).length <= 6) :
    Ret P n_impl_RatRest [.agg ⟨xs⟩, .int .i64 m] w fun v w' => ∃ vs1 f1 vs2 f2, v = .tuple #[.agg ⟨vs1⟩, .agg ⟨vs2⟩, .bool (modeOk m)] /\ Owns w' w.heap.size vs1 (enc (rr N D m)) f1 /\ f1.Nodup /\ Owns w' w.heap.size vs2 (rs N D m) f2 /\ f2.Nodup /\ (∀ k ∈ f1, k ∉ f2) /\ Ext w w' := by
  have hr := h
  obtain ⟨p1, n1, c1, p2, n2, c2, rfl, i1, i2, li1, li2, he, hd⟩ := rmk_open h hok
  refine impl_RatRest_ret ?_
  unfold impl_RatRest
  intro r w1 hn1 r1 w2 hn2 r2 w3 hn3
  have e1 := hn1.r_eq; have e2 := hn2.r_eq; have e3 := hn3.r_eq; have z1 := hn1.size; have z2 := hn2.size; have z3 := hn3.size
  have X := (hn1.ext.trans hn2.ext).trans hn3.ext
  have b0 := (hn1.blk.ext hn2.ext).ext hn3.ext; have b1 := hn2.blk.ext hn3.ext; have b2 := hn3.blk
  have zlen := rr_len (m := m) hd hN
  have zok := rmk_int_ok (show (digs (rr N D m).natAbs).length <= 18 by omega)
  have zred := redR_int (show (digs (rr N D m).natAbs).length <= 18 by omega)
  have zrok := redOk_small (n := rr N D m) (d := 1) (by omega) (Nat.le_trans one_len1 (by decide))
  have dok := rest_len (z := rr N D m) hN hD zlen
  refine ⟨_, _, _, _, _, _, _, b0.loadA0 (by kernel_rfl), ?_⟩
  refine Ret.at (impl_RatRound_n (m := m) (hr.ext X) hok) ?_
  rintro v w4 ⟨vs4, f4, hv, ho4, nd4, y4⟩
  subst hv
  have ho4 : Owns w4 w3.heap.size vs4 (enc (rr N D m)) f4 := ho4
  have hr4 := ho4.reps
  obtain ⟨s0, sp, sn, sc, sz, rfl, _, _⟩ := open_Signed hr4 (enc_code _)
  refine ⟨_, _, _, _, _, rfl, ?_⟩
  intro r3 w5 hn5
  have e5 := hn5.r_eq; have z5 := hn5.size; have l4 := y4.le
  obtain ⟨w6, st6, hb6, y6⟩ := hn5.fill (P := P) (t := T_impl_Signed) (xs := [.bool s0, .slice sp sn sc]) (by simp [Value.oneCell']) (by kernel_rfl) rfl
  have Y6 := y4.trans y6
  have l6 := y6.le
  have zero : ∀ W, Ext w6 W -> modeOk m = false -> ∃ W1, Stores P T_impl_Signed ⟨r1, 0, none⟩ (.agg ⟨[.bool false, .slice none 0 0]⟩) W W1 /\ ∃ W2, Stores P T_impl_Rat ⟨r2, 0, none⟩ (.agg ⟨[.bool false, .slice none 0 0, .slice none 0 0]⟩) W1 W2 /\ Loads P T_impl_Signed ⟨r1, 0, none⟩ (.agg ⟨[.bool false, .slice none 0 0]⟩) W2 /\ Loads P T_impl_Rat ⟨r2, 0, none⟩ (.agg ⟨[.bool false, .slice none 0 0, .slice none 0 0]⟩) W2 /\ Owns W2 w.heap.size [.bool false, .slice none 0 0] (enc (rr N D m)) [] /\ Owns W2 w.heap.size [.bool false, .slice none 0 0, .slice none 0 0] (rs N D m) [] /\ Ext w W2 := by
    intro W hW hno
    have q1 := (b1.ext Y6).ext hW; have q2 := (b2.ext Y6).ext hW
    obtain ⟨W1, W2, a1, _, a2, a3, a4, a5, a6, a7⟩ := two_end (t1 := T_impl_Signed) (t2 := T_impl_Rat) q1 q2 ((X.trans Y6).trans hW) (own_sgn0 W (r2 + 1)) (own_rat0 W (r2 + 1)) (by kernel_rfl) rfl (by kernel_rfl) rfl (by omega) (by omega) (by omega) (by omega) (by omega) (by omega)
    have z1' : rr N D m = 0 := by rw [rr, hno]; rfl
    have z2' : rs N D m = rat0 := by rw [rs, hno]; rfl
    rw [z1', z2']
    exact ⟨W1, a1, W2, a2, a3, a4, a5, a6, a7⟩
  refine ⟨w6, st6, ifN (fun hno => ?_) (fun hyes => ?_)⟩
  · obtain ⟨W1, a1, W2, a2, a3, a4, a5, a6, a7⟩ := zero _ (Ext.refl _) hno
    exact ⟨W1, a1, W2, a2, _, _, _, _, a3, _, _, _, _, _, _, _, a4, _, [], _, [], by rw [hno], a5, List.nodup_nil, a6, List.nodup_nil, fun k hk => by simp at hk, a7⟩
  ·
    have hr6 : Reps w6 [.bool s0, .slice sp sn sc] (enc (rr N D m)) := hr4.ext y6
    refine ⟨_, _, _, _, hb6.loadA0 (by kernel_rfl), ?_⟩
    refine Ret.at (impl_RatInt_n hr6 (by omega)) ?_
    rintro v w7 ⟨vs7, f7, hv, ho7, _, y7⟩
    subst hv
    rw [zred] at ho7
    rw [zrok]
    have hr7 := ho7.reps
    obtain ⟨u0, up, un, uc, uz, up2, un2, uc2, uz2, rfl, _, _, _⟩ := open_Rat hr7 (rmk_code _ _)
    refine ⟨_, _, _, _, _, _, _, _, rfl, ?_⟩
    intro r4 w8 hn8
    have e8 := hn8.r_eq; have z8 := hn8.size; have l7 := y7.le
    obtain ⟨w9, st9, hb9, y9⟩ := hn8.fill (P := P) (t := T_impl_Rat) (xs := [.bool u0, .slice up un uc, .slice up2 un2 uc2]) (by simp [Value.oneCell']) (by kernel_rfl) rfl
    have l9 := y9.le
    have Y9 := (Y6.trans y7).trans y9
    refine ⟨w9, st9, _, _, _, _, _, _, _, (b0.ext Y9).loadA0 (by kernel_rfl), _, _, _, _, _, _, _, hb9.loadA0 (by kernel_rfl), ?_⟩
    refine Ret.at (impl_RatSub_n (hr.ext (X.trans Y9)) (hr7.ext y9) hok zok) ?_
    rintro v w10 ⟨vs10, f10, hv, ho10, nd10, y10⟩
    subst hv
    rw [dok]
    have hr10 := ho10.reps
    obtain ⟨g0, gp, gn, gc, gz, gp2, gn2, gc2, gz2, rfl, _, _, _⟩ := open_Rat hr10 (redR_code _ _)
    refine ⟨_, _, _, _, _, _, _, _, rfl, ?_⟩
    intro r5 w11 hn11
    have e11 := hn11.r_eq; have z11 := hn11.size; have l10 := y10.le
    obtain ⟨w12, st12, hb12, y12⟩ := hn11.fill (P := P) (t := T_impl_Rat) (xs := [.bool g0, .slice gp gn gc, .slice gp2 gn2 gc2]) (by simp [Value.oneCell']) (by kernel_rfl) rfl
    have D' := Ext.drew w12
    have Y12 := ((Y9.trans y10).trans y12).trans D'
    have T12 := (((y7.trans y9).trans y10).trans y12).trans D'
    have q1 := b1.ext Y12; have q2 := b2.ext Y12
    have k3 := hb6.ext T12; have k5 := hb12.ext D'
    have o1 := (ho4.ext y6).ext T12
    have o2 := ((ho10.ext y12).ext D').mono (show w3.heap.size <= w9.heap.size by omega)
    have dis : ∀ k ∈ f4, k ∉ f10 := fun k hk hm => by
      have a := (ho4.lt k hk).2
      have b := (ho10.lt k hm).1
      omega
    refine ⟨w12, st12, ?_⟩
    refine ifN (fun hh => absurd hh (by simp)) (fun _ => ifN (fun hh => absurd hh (by simp)) (fun _ => ?_))
    obtain ⟨W1, W2, a1, ch1, a2, a3, a4, a5, a6, a7⟩ := two_end (t1 := T_impl_Signed) (t2 := T_impl_Rat) q1 q2 (X.trans Y12) o1 o2 (by kernel_rfl) rfl (by kernel_rfl) rfl (by omega) (by omega) (by omega) (by omega) (by omega) (by omega)
    have z1' : rr N D m = rround N D m := by rw [rr, hyes]; rfl
    have z2' : rs N D m = restR N D m := by rw [rs, hyes]; rfl
    refine ⟨[r1], _, _, _, _, fun W hW => (k3.chg (show Chg [r1] w12.drew W from hW) (by simp; omega)).loadA0 (by kernel_rfl), _, _, _, _, _, _, _, fun W hW => (k5.chg (show Chg [r1] w12.drew W from hW) (by simp; omega)).loadA0 (by kernel_rfl), W1, a1, show Chg [r1] w12.drew W1 from ch1, W2, a2, _, _, _, _, a3, _, _, _, _, _, _, _, a4, _, f4, _, f10, by rw [hyes], a5, nd4, ?_, nd10, dis, a7⟩
    rw [z2', restR, <- z1']
    exact a6
theorem spec_RatRest_n {w : World} {xs : List Value} {N : Int} {D : Nat} {m : Int} (h : Reps w xs (rmk N D)) (hok : ratOk (rmk N D) = true) (hN : (digs N.natAbs).length <= 10) (hD : (digs D).length <= 6) :
    Ret P n_spec_RatRest [.agg ⟨xs⟩, .int .i64 m] w fun v w' => ∃ vs1 f1 vs2 f2, v = .tuple #[.agg ⟨vs1⟩, .agg ⟨vs2⟩, .bool (modeOk m)] /\ Owns w' w.heap.size vs1 (enc (rr N D m)) f1 /\ f1.Nodup /\ Owns w' w.heap.size vs2 (rs N D m) f2 /\ f2.Nodup /\ (∀ k ∈ f1, k ∉ f2) /\ Ext w w' := by
  have hr := h
  obtain ⟨p1, n1, c1, p2, n2, c2, rfl, i1, i2, li1, li2, he, hd⟩ := rmk_open h hok
  refine spec_RatRest_ret ?_
  unfold spec_RatRest
  intro r w1 hn1 r1 w2 hn2 r2 w3 hn3
  have e1 := hn1.r_eq; have e2 := hn2.r_eq; have e3 := hn3.r_eq; have z1 := hn1.size; have z2 := hn2.size; have z3 := hn3.size
  have X := (hn1.ext.trans hn2.ext).trans hn3.ext
  have b0 := (hn1.blk.ext hn2.ext).ext hn3.ext; have b1 := hn2.blk.ext hn3.ext; have b2 := hn3.blk
  have zlen := rr_len (m := m) hd hN
  have zok := rmk_int_ok (show (digs (rr N D m).natAbs).length <= 18 by omega)
  have zred := redR_int (show (digs (rr N D m).natAbs).length <= 18 by omega)
  have zrok := redOk_small (n := rr N D m) (d := 1) (by omega) (Nat.le_trans one_len1 (by decide))
  have dok := rest_len (z := rr N D m) hN hD zlen
  refine ⟨_, _, _, _, _, _, _, b0.loadA0 (by kernel_rfl), ?_⟩
  refine Ret.at (spec_RatRound_n (m := m) (hr.ext X) hok) ?_
  rintro v w4 ⟨vs4, f4, hv, ho4, nd4, y4⟩
  subst hv
  have ho4 : Owns w4 w3.heap.size vs4 (enc (rr N D m)) f4 := ho4
  have hr4 := ho4.reps
  obtain ⟨s0, sp, sn, sc, sz, rfl, _, _⟩ := open_Signed hr4 (enc_code _)
  refine ⟨_, _, _, _, _, rfl, ?_⟩
  intro r3 w5 hn5
  have e5 := hn5.r_eq; have z5 := hn5.size; have l4 := y4.le
  obtain ⟨w6, st6, hb6, y6⟩ := hn5.fill (P := P) (t := T_impl_Signed) (xs := [.bool s0, .slice sp sn sc]) (by simp [Value.oneCell']) (by kernel_rfl) rfl
  have Y6 := y4.trans y6
  have l6 := y6.le
  have zero : ∀ W, Ext w6 W -> modeOk m = false -> ∃ W1, Stores P T_impl_Signed ⟨r1, 0, none⟩ (.agg ⟨[.bool false, .slice none 0 0]⟩) W W1 /\ ∃ W2, Stores P T_impl_Rat ⟨r2, 0, none⟩ (.agg ⟨[.bool false, .slice none 0 0, .slice none 0 0]⟩) W1 W2 /\ Loads P T_impl_Signed ⟨r1, 0, none⟩ (.agg ⟨[.bool false, .slice none 0 0]⟩) W2 /\ Loads P T_impl_Rat ⟨r2, 0, none⟩ (.agg ⟨[.bool false, .slice none 0 0, .slice none 0 0]⟩) W2 /\ Owns W2 w.heap.size [.bool false, .slice none 0 0] (enc (rr N D m)) [] /\ Owns W2 w.heap.size [.bool false, .slice none 0 0, .slice none 0 0] (rs N D m) [] /\ Ext w W2 := by
    intro W hW hno
    have q1 := (b1.ext Y6).ext hW; have q2 := (b2.ext Y6).ext hW
    obtain ⟨W1, W2, a1, _, a2, a3, a4, a5, a6, a7⟩ := two_end (t1 := T_impl_Signed) (t2 := T_impl_Rat) q1 q2 ((X.trans Y6).trans hW) (own_sgn0 W (r2 + 1)) (own_rat0 W (r2 + 1)) (by kernel_rfl) rfl (by kernel_rfl) rfl (by omega) (by omega) (by omega) (by omega) (by omega) (by omega)
    have z1' : rr N D m = 0 := by rw [rr, hno]; rfl
    have z2' : rs N D m = rat0 := by rw [rs, hno]; rfl
    rw [z1', z2']
    exact ⟨W1, a1, W2, a2, a3, a4, a5, a6, a7⟩
  refine ⟨w6, st6, ?_⟩
  have hr6 : Reps w6 [.bool s0, .slice sp sn sc] (enc (rr N D m)) := hr4.ext y6
  refine ⟨_, _, _, _, hb6.loadA0 (by kernel_rfl), ?_⟩
  refine Ret.at (spec_RatInt_n hr6 (by omega)) ?_
  rintro v w7 ⟨vs7, f7, hv, ho7, _, y7⟩
  subst hv
  rw [zred] at ho7
  rw [zrok]
  have hr7 := ho7.reps
  obtain ⟨u0, up, un, uc, uz, up2, un2, uc2, uz2, rfl, _, _, _⟩ := open_Rat hr7 (rmk_code _ _)
  refine ⟨_, _, _, _, _, _, _, _, rfl, ?_⟩
  intro r4 w8 hn8
  have e8 := hn8.r_eq; have z8 := hn8.size; have l7 := y7.le
  obtain ⟨w9, st9, hb9, y9⟩ := hn8.fill (P := P) (t := T_impl_Rat) (xs := [.bool u0, .slice up un uc, .slice up2 un2 uc2]) (by simp [Value.oneCell']) (by kernel_rfl) rfl
  have l9 := y9.le
  have Y9 := (Y6.trans y7).trans y9
  refine ⟨w9, st9, _, _, _, _, _, _, _, (b0.ext Y9).loadA0 (by kernel_rfl), _, _, _, _, _, _, _, hb9.loadA0 (by kernel_rfl), ?_⟩
  refine Ret.at (spec_RatSub_n (hr.ext (X.trans Y9)) (hr7.ext y9) hok zok) ?_
  rintro v w10 ⟨vs10, f10, hv, ho10, nd10, y10⟩
  subst hv
  rw [dok]
  have hr10 := ho10.reps
  obtain ⟨g0, gp, gn, gc, gz, gp2, gn2, gc2, gz2, rfl, _, _, _⟩ := open_Rat hr10 (redR_code _ _)
  refine ⟨_, _, _, _, _, _, _, _, rfl, ?_⟩
  intro r5 w11 hn11
  have e11 := hn11.r_eq; have z11 := hn11.size; have l10 := y10.le
  obtain ⟨w12, st12, hb12, y12⟩ := hn11.fill (P := P) (t := T_impl_Rat) (xs := [.bool g0, .slice gp gn gc, .slice gp2 gn2 gc2]) (by simp [Value.oneCell']) (by kernel_rfl) rfl
  have D' := Ext.drew w12
  have Y12 := ((Y9.trans y10).trans y12).trans D'
  have T12 := (((y7.trans y9).trans y10).trans y12).trans D'
  have q1 := b1.ext Y12; have q2 := b2.ext Y12
  have k3 := hb6.ext T12; have k5 := hb12.ext D'
  have o1 := (ho4.ext y6).ext T12
  have o2 := ((ho10.ext y12).ext D').mono (show w3.heap.size <= w9.heap.size by omega)
  have dis : ∀ k ∈ f4, k ∉ f10 := fun k hk hm => by
    have a := (ho4.lt k hk).2
    have b := (ho10.lt k hm).1
    omega
  refine ⟨w12, st12, ?_⟩
  refine ifN (fun hno => ifT (ifT ?_)) (fun hyes => ifN (fun hh => absurd hh (by simp)) (fun _ => ifN (fun hh => absurd hh (by simp)) (fun _ => ?_)))
  · obtain ⟨W1, a1, W2, a2, a3, a4, a5, a6, a7⟩ := zero _ (((y7.trans y9).trans y10).trans y12) hno
    exact ⟨W1, a1, W2, a2, _, _, _, _, a3, _, _, _, _, _, _, _, a4, _, [], _, [], by rw [hno], a5, List.nodup_nil, a6, List.nodup_nil, fun k hk => by simp at hk, a7⟩
  obtain ⟨W1, W2, a1, ch1, a2, a3, a4, a5, a6, a7⟩ := two_end (t1 := T_impl_Signed) (t2 := T_impl_Rat) q1 q2 (X.trans Y12) o1 o2 (by kernel_rfl) rfl (by kernel_rfl) rfl (by omega) (by omega) (by omega) (by omega) (by omega) (by omega)
  have z1' : rr N D m = rround N D m := by rw [rr, hyes]; rfl
  have z2' : rs N D m = restR N D m := by rw [rs, hyes]; rfl
  refine ⟨[r1], _, _, _, _, fun W hW => (k3.chg (show Chg [r1] w12.drew W from hW) (by simp; omega)).loadA0 (by kernel_rfl), _, _, _, _, _, _, _, fun W hW => (k5.chg (show Chg [r1] w12.drew W from hW) (by simp; omega)).loadA0 (by kernel_rfl), W1, a1, show Chg [r1] w12.drew W1 from ch1, W2, a2, _, _, _, _, a3, _, _, _, _, _, _, _, a4, _, f4, _, f10, by rw [hyes], a5, nd4, ?_, nd10, dis, a7⟩
  rw [z2', restR, <- z1']
  exact a6
end Go.Proofs.YtfehpaekbbmkcaaGreatDoor
namespace Go.Proofs.YtfehpaekbbmkcaaGreatDoor
open Go Go.Proofs.YtfehpaekbbmkcaaGreatDoor.Sx
def alk : List D0 -> List D0 -> Bool
  | [.str c, .bool b, .ints z], [.str c2, .bool b2, .ints z2] => moneyOk [.str c, .bool b, .ints z] && (moneyOk [.str c2, .bool b2, .ints z2] && decide (c = c2))
  | _, _ => false
def mres (al : Bool) (c : ByteArray) (z : Int) : Bool × List D0 := if al then (moneyOk (.str c :: enc z), moneyMk c z) else (false, zeroMoney)
theorem mres_code (al : Bool) (c : ByteArray) (z : Int) : (mres al c z).2.map D0.code = [.str, .bool, .ints] := by
  unfold mres
  split
  · exact moneyMk_code _ _
  · rfl
theorem alk_parts {c c2 : ByteArray} {b b2 : Bool} {z z2 : List Int} (h : alk [.str c, .bool b, .ints z] [.str c2, .bool b2, .ints z2] = true) : moneyOk [.str c, .bool b, .ints z] = true /\ moneyOk [.str c2, .bool b2, .ints z2] = true /\ c = c2 := by
  simpa [alk] using h
theorem impl_intAdd_n {w : World} {xs ys : List Value} {x y : Int} (h : Reps w xs (enc x)) (k : Reps w ys (enc y)) (hx : x.natAbs <= 1000000000000000000000000000000000000) (hy : y.natAbs <= 1000000000000000000000000000000000000) :
    Ret P n_impl_intAdd [.agg ⟨xs⟩, .agg ⟨ys⟩] w fun v w' => ∃ vs f, v = .agg ⟨vs⟩ /\ Owns w' w.heap.size vs (enc (x + y)) f /\ f.Nodup /\ Ext w w' := by
  have d1 : (digs x.natAbs).length <= 6 := digs_len_le (by omega)
  have d2 : (digs y.natAbs).length <= 6 := digs_len_le (by omega)
  exact (impl_intAdd_c h k (by omega) (by omega)).mono fun v w' ⟨p, n, c, hv, ho, hx⟩ => ⟨_, _, hv, Owns.int2 ho, nodup_opt p, hx⟩
theorem spec_IntAdd_n {w : World} {xs ys : List Value} {x y : Int} (h : Reps w xs (enc x)) (k : Reps w ys (enc y)) (hx : x.natAbs <= 1000000000000000000000000000000000000) (hy : y.natAbs <= 1000000000000000000000000000000000000) :
    Ret P n_spec_IntAdd [.agg ⟨xs⟩, .agg ⟨ys⟩] w fun v w' => ∃ vs f, v = .agg ⟨vs⟩ /\ Owns w' w.heap.size vs (enc (x + y)) f /\ f.Nodup /\ Ext w w' :=
  (spec_IntAdd_c h k (enc_code _) (enc_code _)).mono fun v w' ⟨vs, f, hv, ho, hn, hx'⟩ => ⟨vs, f, hv, by rwa [iadd_small (by omega) (by omega)] at ho, hn, hx'⟩
theorem spec_IntSub_n {w : World} {xs ys : List Value} {x y : Int} (h : Reps w xs (enc x)) (k : Reps w ys (enc y)) (hx : x.natAbs <= 1000000000000000000000000000000000000) (hy : y.natAbs <= 1000000000000000000000000000000000000) :
    Ret P n_spec_IntSub [.agg ⟨xs⟩, .agg ⟨ys⟩] w fun v w' => ∃ vs f, v = .agg ⟨vs⟩ /\ Owns w' w.heap.size vs (enc (x - y)) f /\ f.Nodup /\ Ext w w' := by
  have d1 : (digs x.natAbs).length <= 6 := digs_len_le (by omega)
  have d2 : (digs (-y).natAbs).length <= 6 := digs_len_le (by omega)
  have d3 : (digs (x + -y).natAbs).length <= 6 := digs_len_le (by omega)
  have hr := h; have kr := k
  obtain ⟨a0, ap, an, ac, az, rfl, hd, ha⟩ := open_Signed h (enc_code _)
  obtain ⟨b0, bp, bn, bc, bz, rfl, he, hb⟩ := open_Signed k (enc_code _)
  refine spec_IntSub_ret ?_
  unfold spec_IntSub
  intro r w1 hn1 r1 w2 hn2 r2 w3 hn3
  have e1 := hn1.r_eq; have e2 := hn2.r_eq; have e3 := hn3.r_eq; have z1 := hn1.size; have z2 := hn2.size; have z3 := hn3.size
  have X := (hn1.ext.trans hn2.ext).trans hn3.ext
  have q0 := (hn1.blk.ext hn2.ext).ext hn3.ext; have q1 := hn2.blk.ext hn3.ext; have q2 := hn3.blk
  refine ⟨_, _, _, _, q0.loadA0 (by kernel_rfl), ?_⟩
  refine Ret.at (spec_IntOk_c (hr.ext X) (enc_code _)) ?_
  rintro v w4 ⟨hv, y4⟩
  subst hv
  rw [enc_small (show x.natAbs < _ by omega)]
  refine ⟨_, rfl, ifN (fun hh => absurd hh (by simp)) (fun _ => ⟨_, _, _, _, (q1.ext y4).loadA0 (by kernel_rfl), ?_⟩)⟩
  refine Ret.at (spec_IntOk_c (kr.ext (X.trans y4)) (enc_code _)) ?_
  rintro v w5 ⟨hv, y5⟩
  subst hv
  rw [enc_small (show y.natAbs < _ by omega)]
  refine ⟨_, rfl, ifN (fun hh => absurd hh (by simp)) (fun _ => ?_)⟩
  have Y := (y4.trans y5).trans (Ext.drew w5)
  have X5 := X.trans Y
  have lY := Y.le
  refine ⟨_, _, _, _, fun W hW => ((q0.ext Y).ext hW).loadA0 (by kernel_rfl), _, _, _, _, fun W hW => ((q1.ext Y).ext hW).loadA0 (by kernel_rfl), ?_⟩
  refine Ret.at (spec_IntNeg_c (kr.ext X5) (enc_small (by omega))) ?_
  rintro v w6 ⟨vs6, f6, hv, ho6, _, y6⟩
  subst hv
  obtain ⟨g0, gp, gn, gc, gz, rfl, _, _⟩ := open_Signed ho6.reps (enc_code _)
  have l6 := y6.le
  refine ⟨_, _, _, _, rfl, y6, ?_⟩
  refine Ret.at (spec_l04Add_c (hr.ext (X5.trans y6)) ho6.reps (by omega) (by omega)) ?_
  rintro v w7 ⟨vs7, f7, hv, ho7, nd7, y7⟩
  subst hv
  rw [icap_fit (by omega), <- Int.sub_eq_add_neg] at ho7
  obtain ⟨m0, mp, mn, mc, mz, rfl, _, _⟩ := open_Signed ho7.reps (enc_code _)
  obtain ⟨W', st', ld', ow', xx', _, _⟩ := agg_end (t := T_impl_Signed) (((q2.ext Y).ext y6).ext y7) ((X5.trans y6).trans y7) (by omega) ho7 (by kernel_rfl) rfl (by omega) (by omega)
  exact ⟨_, _, _, _, rfl, W', st', _, _, _, _, ld', _, f7, rfl, ow', nd7, xx'⟩
theorem impl_alike_c {w : World} {xs ys : List Value} {c c2 : ByteArray} {b b2 : Bool} {z z2 : List Int} (h : Reps w xs [.str c, .bool b, .ints z]) (g : Reps w ys [.str c2, .bool b2, .ints z2]) (ht : Tab w) :
    Ret P n_impl_alike [.agg ⟨xs⟩, .agg ⟨ys⟩] w fun v w' => v = .bool (alk [.str c, .bool b, .ints z] [.str c2, .bool b2, .ints z2]) /\ Ext w w' := by
  have hr := h; have gr := g
  obtain ⟨cur, a0, ap, an, ac, az, rfl, hd, ha⟩ := open_Money h rfl
  cases hd
  obtain ⟨cur2, d0, bp, bn, bc, bz, rfl, hd, hb⟩ := open_Money g rfl
  cases hd
  refine impl_alike_ret ?_
  unfold impl_alike
  intro r w1 hn1 r1 w2 hn2
  have X := hn1.ext.trans hn2.ext
  have q0 := hn1.blk.ext hn2.ext; have q1 := hn2.blk
  refine ⟨_, _, _, _, _, q0.loadA0 (by kernel_rfl), ?_⟩
  refine Ret.at (impl_MoneyOk_c (ht.ext X) (hr.ext X) rfl) ?_
  rintro v w3 ⟨hv, y3⟩
  subst hv
  refine ⟨_, rfl, fun e => ⟨_, _, _, _, _, (q1.ext y3).loadA0 (by kernel_rfl), ?_⟩, fun e => ⟨fun hh => absurd hh (by simp), fun _ => ⟨by simp only [alk, e, Bool.false_and], X.trans y3⟩⟩⟩
  have X3 := X.trans y3
  refine Ret.at (impl_MoneyOk_c (ht.ext X3) (gr.ext X3) rfl) ?_
  rintro v w4 ⟨hv, y4⟩
  subst hv
  have Y := y3.trans y4
  exact ⟨_, rfl, fun e2 => ⟨_, (q0.ext Y).loadAt 0 rfl (by kernel_rfl) rfl, _, (q1.ext Y).loadAt 0 rfl (by kernel_rfl) rfl, by simp only [alk, e, e2, Bool.true_and], X.trans Y⟩, fun e2 => ⟨by simp only [alk, e, e2, Bool.false_and, Bool.and_false], X.trans Y⟩⟩
theorem spec_l09Both_c {w : World} {xs ys : List Value} {c c2 : ByteArray} {b b2 : Bool} {z z2 : List Int} (h : Reps w xs [.str c, .bool b, .ints z]) (g : Reps w ys [.str c2, .bool b2, .ints z2]) :
    Ret P n_spec_l09Both [.agg ⟨xs⟩, .agg ⟨ys⟩] w fun v w' => v = .bool (alk [.str c, .bool b, .ints z] [.str c2, .bool b2, .ints z2]) /\ Ext w w' := by
  have hr := h; have gr := g
  obtain ⟨cur, a0, ap, an, ac, az, rfl, hd, ha⟩ := open_Money h rfl
  cases hd
  obtain ⟨cur2, d0, bp, bn, bc, bz, rfl, hd, hb⟩ := open_Money g rfl
  cases hd
  refine spec_l09Both_ret ?_
  unfold spec_l09Both
  intro r w1 hn1 r1 w2 hn2
  have X := hn1.ext.trans hn2.ext
  have q0 := hn1.blk.ext hn2.ext; have q1 := hn2.blk
  refine ⟨_, _, _, _, _, q0.loadA0 (by kernel_rfl), ?_⟩
  refine Ret.at (spec_MoneyOk_c (hr.ext X) rfl) ?_
  rintro v w3 ⟨hv, y3⟩
  subst hv
  refine ⟨_, rfl, fun e => ⟨_, _, _, _, _, (q1.ext y3).loadA0 (by kernel_rfl), ?_⟩, fun e => ⟨fun hh => absurd hh (by simp), fun _ => ⟨by simp only [alk, e, Bool.false_and], X.trans y3⟩⟩⟩
  have X3 := X.trans y3
  refine Ret.at (spec_MoneyOk_c (gr.ext X3) rfl) ?_
  rintro v w4 ⟨hv, y4⟩
  subst hv
  have Y := y3.trans y4
  exact ⟨_, rfl, fun e2 => ⟨_, (q0.ext Y).loadAt 0 rfl (by kernel_rfl) rfl, _, (q1.ext Y).loadAt 0 rfl (by kernel_rfl) rfl, by simp only [alk, e, e2, Bool.true_and], X.trans Y⟩, fun e2 => ⟨by simp only [alk, e, e2, Bool.false_and, Bool.and_false], X.trans Y⟩⟩
theorem impl_MoneyAdd_n {w : World} {xs ys : List Value} {c c2 : ByteArray} {b b2 : Bool} {z z2 : List Int} (h : Reps w xs [.str c, .bool b, .ints z]) (g : Reps w ys [.str c2, .bool b2, .ints z2]) (ht : Tab w) :
    Ret P n_impl_MoneyAdd [.agg ⟨xs⟩, .agg ⟨ys⟩] w fun v w' => ∃ vs f, v = .tuple #[.agg ⟨vs⟩, .bool (mres (alk [.str c, .bool b, .ints z] [.str c2, .bool b2, .ints z2]) c (ival [.bool b, .ints z] + ival [.bool b2, .ints z2])).1] /\ Owns w' w.heap.size vs (mres (alk [.str c, .bool b, .ints z] [.str c2, .bool b2, .ints z2]) c (ival [.bool b, .ints z] + ival [.bool b2, .ints z2])).2 f /\ f.Nodup /\ Ext w w' := by
  have hr := h; have gr := g
  obtain ⟨cur, a0, ap, an, ac, az, rfl, hd, ha⟩ := open_Money h rfl
  cases hd
  obtain ⟨cur2, d0, bp, bn, bc, bz, rfl, hd, hb⟩ := open_Money g rfl
  cases hd
  refine impl_MoneyAdd_ret ?_
  unfold impl_MoneyAdd
  intro r w1 hn1 r1 w2 hn2 r2 w3 hn3
  have e1 := hn1.r_eq; have e2 := hn2.r_eq; have e3 := hn3.r_eq; have s1 := hn1.size; have s2 := hn2.size; have s3 := hn3.size
  have X := (hn1.ext.trans hn2.ext).trans hn3.ext
  have q0 := (hn1.blk.ext hn2.ext).ext hn3.ext; have q1 := hn2.blk.ext hn3.ext; have q2 := hn3.blk
  refine ⟨_, _, _, _, _, q0.loadA0 (by kernel_rfl), _, _, _, _, _, q1.loadA0 (by kernel_rfl), ?_⟩
  refine Ret.at (impl_alike_c (hr.ext X) (gr.ext X) (ht.ext X)) ?_
  rintro v w4 ⟨hv, y4⟩
  subst hv
  have l4 := y4.le
  generalize hal : alk [.str c, .bool b, .ints z] [.str c2, .bool b2, .ints z2] = al
  refine ⟨_, rfl, ifN (fun hno => ?_) (fun hyes => ?_)⟩
  · subst hno
    obtain ⟨W', st', ld', ow', xx', _, _⟩ := agg_end (t := T_impl_Money) (q2.ext y4) (X.trans y4) (by omega) (own_money0 w4 (r2 + 1)) (by kernel_rfl) rfl (by omega) (by omega)
    exact ⟨W', st', _, _, _, _, _, ld', _, [], rfl, ow', List.nodup_nil, xx'⟩
  subst hyes
  obtain ⟨m1, m2, rfl⟩ := alk_parts hal
  have E1 := (intOk_enc (moneyOk_int m1)).1; have E2 := (intOk_enc (moneyOk_int m2)).1
  have B1 := money_bound m1; have B2 := money_bound m2
  have Y := y4.trans (Ext.drew w4)
  have X4 := X.trans Y
  have lY := Y.le
  have k0 := q0.ext Y; have k1 := q1.ext Y; have k2 := q2.ext Y
  have hx : Reps w4.drew [.bool b, .slice ap an ac] (enc (ival [.bool b, .ints z])) := by
    rw [<- E1]; exact ⟨rfl, ⟨_, _, _, rfl, ha.ext X4⟩, trivial⟩
  have hy : Reps w4.drew [.bool b2, .slice bp bn bc] (enc (ival [.bool b2, .ints z2])) := by
    rw [<- E2]; exact ⟨rfl, ⟨_, _, _, rfl, hb.ext X4⟩, trivial⟩
  generalize ival [.bool b, .ints z] = U at B1 hx
  generalize ival [.bool b2, .ints z2] = V at B2 hy
  refine ⟨_, fun W hW => (k0.ext hW).loadAt 0 rfl (by kernel_rfl) rfl, _, _, _, _, fun W hW => (k0.ext hW).loadAAt 1 [.bool b, .slice ap an ac] rfl (by kernel_rfl) rfl, _, _, _, _, fun W hW => (k1.ext hW).loadAAt 1 [.bool b2, .slice bp bn bc] rfl (by kernel_rfl) rfl, ?_⟩
  refine Ret.at (impl_intAdd_n hx hy B1 B2) ?_
  rintro v w6 ⟨vs6, f6, hv, ho6, nd6, y6⟩
  subst hv
  have Z6 := y6
  obtain ⟨g0, gp, gn, gc, gz, rfl, _, _⟩ := open_Signed ho6.reps (enc_code _)
  have l6 := y6.le
  refine ⟨_, _, _, _, rfl, y6, ?_⟩
  refine Ret.at (impl_moneyOf_s (ht.ext (X4.trans y6)) c ho6 nd6 (by omega)) ?_
  rintro v w7 ⟨vs7, f7, hv, ho7, nd7, _, y7⟩
  subst hv
  obtain ⟨u0, u1, up, un, uc, uz, rfl, _, _⟩ := open_Money ho7.reps (moneyMk_code _ _)
  obtain ⟨W', st', ld', ow', xx', _, _⟩ := agg_end (t := T_impl_Money) ((k2.ext Z6).ext y7) ((X4.trans Z6).trans y7) (by omega) ho7 (by kernel_rfl) rfl (by omega) (by omega)
  exact ⟨_, _, _, _, _, _, rfl, W', st', _, _, _, _, _, ld', _, f7, rfl, ow', nd7, xx'⟩
theorem spec_MoneyAdd_n {w : World} {xs ys : List Value} {c c2 : ByteArray} {b b2 : Bool} {z z2 : List Int} (h : Reps w xs [.str c, .bool b, .ints z]) (g : Reps w ys [.str c2, .bool b2, .ints z2]) :
    Ret P n_spec_MoneyAdd [.agg ⟨xs⟩, .agg ⟨ys⟩] w fun v w' => ∃ vs f, v = .tuple #[.agg ⟨vs⟩, .bool (mres (alk [.str c, .bool b, .ints z] [.str c2, .bool b2, .ints z2]) c (ival [.bool b, .ints z] + ival [.bool b2, .ints z2])).1] /\ Owns w' w.heap.size vs (mres (alk [.str c, .bool b, .ints z] [.str c2, .bool b2, .ints z2]) c (ival [.bool b, .ints z] + ival [.bool b2, .ints z2])).2 f /\ f.Nodup /\ Ext w w' := by
  have hr := h; have gr := g
  obtain ⟨cur, a0, ap, an, ac, az, rfl, hd, ha⟩ := open_Money h rfl
  cases hd
  obtain ⟨cur2, d0, bp, bn, bc, bz, rfl, hd, hb⟩ := open_Money g rfl
  cases hd
  refine spec_MoneyAdd_ret ?_
  unfold spec_MoneyAdd
  intro r w1 hn1 r1 w2 hn2 r2 w3 hn3
  have e1 := hn1.r_eq; have e2 := hn2.r_eq; have e3 := hn3.r_eq; have s1 := hn1.size; have s2 := hn2.size; have s3 := hn3.size
  have X := (hn1.ext.trans hn2.ext).trans hn3.ext
  have q0 := (hn1.blk.ext hn2.ext).ext hn3.ext; have q1 := hn2.blk.ext hn3.ext; have q2 := hn3.blk
  refine ⟨_, _, _, _, _, q0.loadA0 (by kernel_rfl), _, _, _, _, _, q1.loadA0 (by kernel_rfl), ?_⟩
  refine Ret.at (spec_l09Both_c (hr.ext X) (gr.ext X)) ?_
  rintro v w4 ⟨hv, y4⟩
  subst hv
  have l4 := y4.le
  generalize hal : alk [.str c, .bool b, .ints z] [.str c2, .bool b2, .ints z2] = al
  refine ⟨_, rfl, ifN (fun hno => ?_) (fun hyes => ?_)⟩
  · subst hno
    obtain ⟨W', st', ld', ow', xx', _, _⟩ := agg_end (t := T_impl_Money) (q2.ext y4) (X.trans y4) (by omega) (own_money0 w4 (r2 + 1)) (by kernel_rfl) rfl (by omega) (by omega)
    exact ⟨W', st', _, _, _, _, _, ld', _, [], rfl, ow', List.nodup_nil, xx'⟩
  subst hyes
  obtain ⟨m1, m2, rfl⟩ := alk_parts hal
  have E1 := (intOk_enc (moneyOk_int m1)).1; have E2 := (intOk_enc (moneyOk_int m2)).1
  have B1 := money_bound m1; have B2 := money_bound m2
  have Y := y4.trans (Ext.drew w4)
  have X4 := X.trans Y
  have lY := Y.le
  have k0 := q0.ext Y; have k1 := q1.ext Y; have k2 := q2.ext Y
  have hx : Reps w4.drew [.bool b, .slice ap an ac] (enc (ival [.bool b, .ints z])) := by
    rw [<- E1]; exact ⟨rfl, ⟨_, _, _, rfl, ha.ext X4⟩, trivial⟩
  have hy : Reps w4.drew [.bool b2, .slice bp bn bc] (enc (ival [.bool b2, .ints z2])) := by
    rw [<- E2]; exact ⟨rfl, ⟨_, _, _, rfl, hb.ext X4⟩, trivial⟩
  generalize ival [.bool b, .ints z] = U at B1 hx
  generalize ival [.bool b2, .ints z2] = V at B2 hy
  refine ⟨_, fun W hW => (k0.ext hW).loadAt 0 rfl (by kernel_rfl) rfl, _, _, _, _, fun W hW => (k0.ext hW).loadAAt 1 [.bool b, .slice ap an ac] rfl (by kernel_rfl) rfl, _, _, _, _, fun W hW => (k1.ext hW).loadAAt 1 [.bool b2, .slice bp bn bc] rfl (by kernel_rfl) rfl, ?_⟩
  refine Ret.at (spec_IntAdd_n hx hy B1 B2) ?_
  rintro v w6 ⟨vs6, f6, hv, ho6, nd6, y6⟩
  subst hv
  have Z6 := y6
  obtain ⟨g0, gp, gn, gc, gz, rfl, _, _⟩ := open_Signed ho6.reps (enc_code _)
  have l6 := y6.le
  refine ⟨_, _, _, _, rfl, y6, ?_⟩
  refine Ret.at (spec_l09Make_s c ho6 nd6 (by omega)) ?_
  rintro v w7 ⟨vs7, f7, hv, ho7, nd7, _, y7⟩
  subst hv
  obtain ⟨u0, u1, up, un, uc, uz, rfl, _, _⟩ := open_Money ho7.reps (moneyMk_code _ _)
  obtain ⟨W', st', ld', ow', xx', _, _⟩ := agg_end (t := T_impl_Money) ((k2.ext Z6).ext y7) ((X4.trans Z6).trans y7) (by omega) ho7 (by kernel_rfl) rfl (by omega) (by omega)
  exact ⟨_, _, _, _, _, _, rfl, W', st', _, _, _, _, _, ld', _, f7, rfl, ow', nd7, xx'⟩
theorem impl_MoneySub_n {w : World} {xs ys : List Value} {c c2 : ByteArray} {b b2 : Bool} {z z2 : List Int} (h : Reps w xs [.str c, .bool b, .ints z]) (g : Reps w ys [.str c2, .bool b2, .ints z2]) (ht : Tab w) :
    Ret P n_impl_MoneySub [.agg ⟨xs⟩, .agg ⟨ys⟩] w fun v w' => ∃ vs f, v = .tuple #[.agg ⟨vs⟩, .bool (mres (alk [.str c, .bool b, .ints z] [.str c2, .bool b2, .ints z2]) c (ival [.bool b, .ints z] - ival [.bool b2, .ints z2])).1] /\ Owns w' w.heap.size vs (mres (alk [.str c, .bool b, .ints z] [.str c2, .bool b2, .ints z2]) c (ival [.bool b, .ints z] - ival [.bool b2, .ints z2])).2 f /\ f.Nodup /\ Ext w w' := by
  have hr := h; have gr := g
  obtain ⟨cur, a0, ap, an, ac, az, rfl, hd, ha⟩ := open_Money h rfl
  cases hd
  obtain ⟨cur2, d0, bp, bn, bc, bz, rfl, hd, hb⟩ := open_Money g rfl
  cases hd
  refine impl_MoneySub_ret ?_
  unfold impl_MoneySub
  intro r w1 hn1 r1 w2 hn2 r2 w3 hn3
  have e1 := hn1.r_eq; have e2 := hn2.r_eq; have e3 := hn3.r_eq; have s1 := hn1.size; have s2 := hn2.size; have s3 := hn3.size
  have X := (hn1.ext.trans hn2.ext).trans hn3.ext
  have q0 := (hn1.blk.ext hn2.ext).ext hn3.ext; have q1 := hn2.blk.ext hn3.ext; have q2 := hn3.blk
  refine ⟨_, _, _, _, _, q0.loadA0 (by kernel_rfl), _, _, _, _, _, q1.loadA0 (by kernel_rfl), ?_⟩
  refine Ret.at (impl_alike_c (hr.ext X) (gr.ext X) (ht.ext X)) ?_
  rintro v w4 ⟨hv, y4⟩
  subst hv
  have l4 := y4.le
  generalize hal : alk [.str c, .bool b, .ints z] [.str c2, .bool b2, .ints z2] = al
  refine ⟨_, rfl, ifN (fun hno => ?_) (fun hyes => ?_)⟩
  · subst hno
    obtain ⟨W', st', ld', ow', xx', _, _⟩ := agg_end (t := T_impl_Money) (q2.ext y4) (X.trans y4) (by omega) (own_money0 w4 (r2 + 1)) (by kernel_rfl) rfl (by omega) (by omega)
    exact ⟨W', st', _, _, _, _, _, ld', _, [], rfl, ow', List.nodup_nil, xx'⟩
  subst hyes
  obtain ⟨m1, m2, rfl⟩ := alk_parts hal
  have E1 := (intOk_enc (moneyOk_int m1)).1; have E2 := (intOk_enc (moneyOk_int m2)).1
  have B1 := money_bound m1; have B2 := money_bound m2
  have Y := y4.trans (Ext.drew w4)
  have X4 := X.trans Y
  have lY := Y.le
  have k0 := q0.ext Y; have k1 := q1.ext Y; have k2 := q2.ext Y
  have hx : Reps w4.drew [.bool b, .slice ap an ac] (enc (ival [.bool b, .ints z])) := by
    rw [<- E1]; exact ⟨rfl, ⟨_, _, _, rfl, ha.ext X4⟩, trivial⟩
  have hy : Reps w4.drew [.bool b2, .slice bp bn bc] (enc (ival [.bool b2, .ints z2])) := by
    rw [<- E2]; exact ⟨rfl, ⟨_, _, _, rfl, hb.ext X4⟩, trivial⟩
  generalize ival [.bool b, .ints z] = U at B1 hx
  generalize ival [.bool b2, .ints z2] = V at B2 hy
  refine ⟨_, fun W hW => (k0.ext hW).loadAt 0 rfl (by kernel_rfl) rfl, _, _, _, _, fun W hW => (k0.ext hW).loadAAt 1 [.bool b, .slice ap an ac] rfl (by kernel_rfl) rfl, _, _, _, _, fun W hW => (k1.ext hW).loadAAt 1 [.bool b2, .slice bp bn bc] rfl (by kernel_rfl) rfl, ?_⟩
  have d2 : (digs V.natAbs).length <= 6 := digs_len_le (by omega)
  refine Ret.at (impl_intNeg_c hy (by omega)) ?_
  rintro v w5 ⟨vs5, f5, hv, ho5, _, y5⟩
  subst hv
  obtain ⟨n0, np, nn, nc, nz, rfl, _, _⟩ := open_Signed ho5.reps (enc_code _)
  have l5 := y5.le
  refine ⟨_, _, _, _, rfl, y5, ?_⟩
  refine Ret.at (impl_intAdd_n (hx.ext y5) ho5.reps B1 (by omega)) ?_
  rintro v w6 ⟨vs6, f6, hv, ho6, nd6, y6⟩
  subst hv
  have Z6 := y5.trans y6
  rw [<- Int.sub_eq_add_neg] at ho6
  obtain ⟨g0, gp, gn, gc, gz, rfl, _, _⟩ := open_Signed ho6.reps (enc_code _)
  have l6 := y6.le
  refine ⟨_, _, _, _, rfl, y6, ?_⟩
  refine Ret.at (impl_moneyOf_s (ht.ext (X4.trans Z6)) c ho6 nd6 (by omega)) ?_
  rintro v w7 ⟨vs7, f7, hv, ho7, nd7, _, y7⟩
  subst hv
  obtain ⟨u0, u1, up, un, uc, uz, rfl, _, _⟩ := open_Money ho7.reps (moneyMk_code _ _)
  obtain ⟨W', st', ld', ow', xx', _, _⟩ := agg_end (t := T_impl_Money) ((k2.ext Z6).ext y7) ((X4.trans Z6).trans y7) (by omega) ho7 (by kernel_rfl) rfl (by omega) (by omega)
  exact ⟨_, _, _, _, _, _, rfl, W', st', _, _, _, _, _, ld', _, f7, rfl, ow', nd7, xx'⟩
theorem spec_MoneySub_n {w : World} {xs ys : List Value} {c c2 : ByteArray} {b b2 : Bool} {z z2 : List Int} (h : Reps w xs [.str c, .bool b, .ints z]) (g : Reps w ys [.str c2, .bool b2, .ints z2]) :
    Ret P n_spec_MoneySub [.agg ⟨xs⟩, .agg ⟨ys⟩] w fun v w' => ∃ vs f, v = .tuple #[.agg ⟨vs⟩, .bool (mres (alk [.str c, .bool b, .ints z] [.str c2, .bool b2, .ints z2]) c (ival [.bool b, .ints z] - ival [.bool b2, .ints z2])).1] /\ Owns w' w.heap.size vs (mres (alk [.str c, .bool b, .ints z] [.str c2, .bool b2, .ints z2]) c (ival [.bool b, .ints z] - ival [.bool b2, .ints z2])).2 f /\ f.Nodup /\ Ext w w' := by
  have hr := h; have gr := g
  obtain ⟨cur, a0, ap, an, ac, az, rfl, hd, ha⟩ := open_Money h rfl
  cases hd
  obtain ⟨cur2, d0, bp, bn, bc, bz, rfl, hd, hb⟩ := open_Money g rfl
  cases hd
  refine spec_MoneySub_ret ?_
  unfold spec_MoneySub
  intro r w1 hn1 r1 w2 hn2 r2 w3 hn3
  have e1 := hn1.r_eq; have e2 := hn2.r_eq; have e3 := hn3.r_eq; have s1 := hn1.size; have s2 := hn2.size; have s3 := hn3.size
  have X := (hn1.ext.trans hn2.ext).trans hn3.ext
  have q0 := (hn1.blk.ext hn2.ext).ext hn3.ext; have q1 := hn2.blk.ext hn3.ext; have q2 := hn3.blk
  refine ⟨_, _, _, _, _, q0.loadA0 (by kernel_rfl), _, _, _, _, _, q1.loadA0 (by kernel_rfl), ?_⟩
  refine Ret.at (spec_l09Both_c (hr.ext X) (gr.ext X)) ?_
  rintro v w4 ⟨hv, y4⟩
  subst hv
  have l4 := y4.le
  generalize hal : alk [.str c, .bool b, .ints z] [.str c2, .bool b2, .ints z2] = al
  refine ⟨_, rfl, ifN (fun hno => ?_) (fun hyes => ?_)⟩
  · subst hno
    obtain ⟨W', st', ld', ow', xx', _, _⟩ := agg_end (t := T_impl_Money) (q2.ext y4) (X.trans y4) (by omega) (own_money0 w4 (r2 + 1)) (by kernel_rfl) rfl (by omega) (by omega)
    exact ⟨W', st', _, _, _, _, _, ld', _, [], rfl, ow', List.nodup_nil, xx'⟩
  subst hyes
  obtain ⟨m1, m2, rfl⟩ := alk_parts hal
  have E1 := (intOk_enc (moneyOk_int m1)).1; have E2 := (intOk_enc (moneyOk_int m2)).1
  have B1 := money_bound m1; have B2 := money_bound m2
  have Y := y4.trans (Ext.drew w4)
  have X4 := X.trans Y
  have lY := Y.le
  have k0 := q0.ext Y; have k1 := q1.ext Y; have k2 := q2.ext Y
  have hx : Reps w4.drew [.bool b, .slice ap an ac] (enc (ival [.bool b, .ints z])) := by
    rw [<- E1]; exact ⟨rfl, ⟨_, _, _, rfl, ha.ext X4⟩, trivial⟩
  have hy : Reps w4.drew [.bool b2, .slice bp bn bc] (enc (ival [.bool b2, .ints z2])) := by
    rw [<- E2]; exact ⟨rfl, ⟨_, _, _, rfl, hb.ext X4⟩, trivial⟩
  generalize ival [.bool b, .ints z] = U at B1 hx
  generalize ival [.bool b2, .ints z2] = V at B2 hy
  refine ⟨_, fun W hW => (k0.ext hW).loadAt 0 rfl (by kernel_rfl) rfl, _, _, _, _, fun W hW => (k0.ext hW).loadAAt 1 [.bool b, .slice ap an ac] rfl (by kernel_rfl) rfl, _, _, _, _, fun W hW => (k1.ext hW).loadAAt 1 [.bool b2, .slice bp bn bc] rfl (by kernel_rfl) rfl, ?_⟩
  refine Ret.at (spec_IntSub_n hx hy B1 B2) ?_
  rintro v w6 ⟨vs6, f6, hv, ho6, nd6, y6⟩
  subst hv
  have Z6 := y6
  obtain ⟨g0, gp, gn, gc, gz, rfl, _, _⟩ := open_Signed ho6.reps (enc_code _)
  have l6 := y6.le
  refine ⟨_, _, _, _, rfl, y6, ?_⟩
  refine Ret.at (spec_l09Make_s c ho6 nd6 (by omega)) ?_
  rintro v w7 ⟨vs7, f7, hv, ho7, nd7, _, y7⟩
  subst hv
  obtain ⟨u0, u1, up, un, uc, uz, rfl, _, _⟩ := open_Money ho7.reps (moneyMk_code _ _)
  obtain ⟨W', st', ld', ow', xx', _, _⟩ := agg_end (t := T_impl_Money) ((k2.ext Z6).ext y7) ((X4.trans Z6).trans y7) (by omega) ho7 (by kernel_rfl) rfl (by omega) (by omega)
  exact ⟨_, _, _, _, _, _, rfl, W', st', _, _, _, _, _, ld', _, f7, rfl, ow', nd7, xx'⟩
end Go.Proofs.YtfehpaekbbmkcaaGreatDoor
