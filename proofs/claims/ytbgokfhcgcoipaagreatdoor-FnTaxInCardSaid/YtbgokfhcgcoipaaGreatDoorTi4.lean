/-
  Parts of the proof of fnTaxIn_holds: CGcd, CTen, CDec, CCmp, CScaled, CDecCmp, CCopy, CRat, CRatLaw, CLowS, CSpecDec, CDecMul, CDecLow, CAggE, CRatA, CRatB, Tab, CCurr, CWord, CDebtsOk, CBookSum, CUndo, CRestsNeg, CRatC, CRoundA, CRoundB, CAggM, CRatM, CTaxRateOk, CRatMoney, CRV, CMoneyAS, CPercentL, CTaxOn, CNextRow, CTaxIn.
  Conditions: none.
-/
import Derived.Test.YtbgokfhcgcoipaaGreatDoorTi3
set_option linter.unusedVariables false
set_option linter.unusedSimpArgs false

namespace Go.Proofs.YtbgokfhcgcoipaaGreatDoor
open Go Go.Proofs.YtbgokfhcgcoipaaGreatDoor.Sx
theorem ints_uniq {w : World} {p : Option Addr} {n c : Nat} {zs ys : List Int} (h : IntsR w p n c zs) (k : IntsR w p n c ys) : zs = ys := by
  have h1 := h.1; have k1 := k.1
  apply List.ext_getElem (by omega)
  intro i hi hj
  obtain ⟨b, o, hp, hs⟩ := h.2.2.2 (by omega)
  obtain ⟨b', o', hp', hs'⟩ := k.2.2.2 (by omega)
  rw [hp] at hp'
  obtain ⟨rfl, rfl⟩ : b = b' /\ o = o' := by injection hp' with e; injection e with e1 e2; exact ⟨e1, e2⟩
  have a1 := hs i (.int .i64 zs[i]) (by simp [hi])
  have a2 := hs' i (.int .i64 ys[i]) (by simp [hj])
  rw [a1] at a2
  injection a2 with e; injection e
theorem digs_inj {x y : Nat} (h : digs x = digs y) : x = y := by
  have := congrArg val h
  rw [val_digs, val_digs] at this
  omega
theorem numAt_ex : ∃ f : World -> Option Addr -> Nat -> Nat -> Nat, ∀ W p n c y, IntsR W p n c (digs y) -> f W p n c = y := by
  refine ⟨fun W p n c => @dite _ (∃ y, IntsR W p n c (digs y)) (Classical.propDecidable _) (fun h => Classical.choose h) (fun _ => 0), fun W p n c y h => ?_⟩
  have hx : ∃ y, IntsR W p n c (digs y) := ⟨y, h⟩
  show @dite _ (∃ y, IntsR W p n c (digs y)) (Classical.propDecidable _) (fun h => Classical.choose h) (fun _ => 0) = y
  rw [dif_pos hx]
  exact digs_inj (ints_uniq (Classical.choose_spec hx) h)
theorem emod_toNat (x y : Nat) : (((x : Int) % (y : Int)).toNat) = x % y := by
  rw [<- Int.natCast_emod]; exact Int.toNat_natCast _
theorem ediv_toNat (x y : Nat) : (((x : Int) / (y : Int)).toNat) = x / y := by
  rw [<- Int.natCast_ediv]; exact Int.toNat_natCast _
theorem digs_mod_len {x y : Nat} (h : 0 < y) : (digs (x % y)).length <= (digs y).length := by
  refine digs_len _ ?_
  have h1 := val_lt (digs_limbs y)
  rw [val_digs] at h1
  have : ((y : Nat) : Int) < ((1000000000 ^ (digs y).length : Nat) : Int) := by simpa using h1
  exact Nat.lt_trans (Nat.mod_lt _ h) (Int.ofNat_lt.1 this)
theorem digs_mono_len {x y : Nat} (h : x <= y) : (digs x).length <= (digs y).length := by
  refine digs_len _ ?_
  have h1 := val_lt (digs_limbs y)
  rw [val_digs] at h1
  have : ((y : Nat) : Int) < ((1000000000 ^ (digs y).length : Nat) : Int) := by simpa using h1
  exact Nat.lt_of_le_of_lt h (Int.ofNat_lt.1 this)
theorem gcd_step (x y : Nat) : Nat.gcd y (x % y) = Nat.gcd x y := by
  rw [Nat.gcd_comm x y, Nat.gcd_rec y x, Nat.gcd_comm]
theorem impl_natGcd_c {w : World} {p q : Option Addr} {n c m d : Nat} {x y : Nat} (h : IntsR w p n c (digs x)) (k : IntsR w q m d (digs y)) (hn : n <= 100000) (hm : m <= 100000) :
    Ret P n_impl_natGcd [.slice p n c, .slice q m d] w fun v w' => ∃ p' n' c', v = .slice p' n' c' /\ Own w' w.heap.size T_int 1 p' n' c' ((digs (Nat.gcd x y)).map (Value.int .i64)) /\ Ext w w' := by
  refine impl_natGcd_ret ?_
  unfold impl_natGcd
  obtain ⟨f, hf⟩ := numAt_ex
  refine ⟨fun ap an ac bp bn bc wr => ∃ s t, IntsR wr ap an ac (digs s) /\ IntsR wr bp bn bc (digs t) /\ an <= 100000 /\ bn <= 100000 /\ Ext w wr /\ Nat.gcd s t = Nat.gcd x y, fun _ _ _ bp bn bc W => f W bp bn bc, ⟨x, y, h, k, hn, hm, Ext.refl _, rfl⟩, ?_⟩
  intro junk wr ap an ac bp bn bc ⟨s, t, ha, hb, han, hbn, hx, hg⟩
  have hbl := hb.1
  refine ifD (fun hlt => ?_) (fun hge => ?_)
  · have ht : 0 < t := by
      rcases Nat.eq_zero_or_pos t with e | e
      · subst e; rw [digs_zero] at hbl; simp at hbl; omega
      · exact e
    refine Ret.at (impl_natDiv_c ha hb (digs_canon _) (digs_canon _) (by omega) han hbn) ?_
    rintro v w1 ⟨p1, n1, c1, p2, n2, c2, hv, o1, o2, _, y1⟩
    subst hv
    rw [val_digs, val_digs, emod_toNat] at o2
    have hn2 : n2 <= bn := by
      have := o2.len
      simp only [List.length_map] at this
      have := digs_mod_len (x := s) ht
      omega
    refine ⟨_, _, _, _, _, _, rfl, ⟨t, s % t, hb.ext y1, o2.ints, hbn, by omega, hx.trans y1, by rw [gcd_step, hg]⟩, ?_⟩
    show f w1 p2 n2 c2 < f wr bp bn bc
    rw [hf _ _ _ _ _ o2.ints, hf _ _ _ _ _ hb]
    exact Nat.mod_lt _ ht
  · have ht : t = 0 := by
      have : bn = 0 := by omega
      rw [this] at hbl
      exact digs_nil.1 (List.eq_nil_of_length_eq_zero hbl)
    subst ht
    rw [Nat.gcd_zero_right] at hg
    subst hg
    refine Ret.at (impl_natCopy_c ha (by omega)) ?_
    rintro v w1 ⟨p', c', hv, ho, y1⟩
    subst hv
    exact ⟨_, _, _, rfl, _, _, _, rfl, ho.mono hx.le, hx.trans y1⟩
theorem spec_NatGcd_c {w : World} {p q : Option Addr} {n c m d : Nat} {x y : Nat} (h : IntsR w p n c (digs x)) (k : IntsR w q m d (digs y)) (hn : n <= 50) (hm : m <= 50) :
    Ret P n_spec_NatGcd [.slice p n c, .slice q m d] w fun v w' => ∃ p' n' c', v = .slice p' n' c' /\ IntsR w' p' n' c' (digs (Nat.gcd x y)) /\ Ext w w' := by
  refine spec_NatGcd_ret ?_
  unfold spec_NatGcd
  have hl := h.1; have kl := k.1
  have okx : natOk (digs x) = true := natOk_spec.2 ⟨digs_canon x, by omega⟩
  have oky : natOk (digs y) = true := natOk_spec.2 ⟨digs_canon y, by omega⟩
  refine Ret.at (spec_NatOk_c h) ?_
  rintro v w1 ⟨hv, y1⟩
  subst hv
  refine ⟨_, rfl, ifN (fun e => by rw [okx] at e; cases e) (fun _ => ?_)⟩
  refine Ret.at (spec_NatOk_c (k.ext y1)) ?_
  rintro v w2 ⟨hv, y2⟩
  subst hv
  refine ⟨_, rfl, ifN (fun e => by rw [oky] at e; cases e) (fun _ => ?_)⟩
  have x2 := y1.trans y2
  unfold spec_NatGcd_j0
  intro r w3 hn3
  obtain ⟨p4, c4, w4, ap4, o4, x4⟩ := Own.appendI (Own.fresh hn3) hn3.ext.le (h.ext (x2.trans hn3.ext)) (by omega)
  rw [List.nil_append, Nat.zero_add] at o4
  rw [Nat.zero_add] at ap4
  have X4 := x4 w2 hn3.ext (Nat.le_refl _)
  refine ⟨_, _, _, _, ap4, ?_⟩
  intro r5 w5 hn5
  obtain ⟨p6, c6, w6, ap6, o6, x6⟩ := Own.appendI (Own.fresh hn5) hn5.ext.le (k.ext ((x2.trans X4).trans hn5.ext)) (by omega)
  rw [List.nil_append, Nat.zero_add] at o6
  rw [Nat.zero_add] at ap6
  have X6 := x6 w4 hn5.ext (Nat.le_refl _)
  refine ⟨_, _, _, _, ap6, ?_⟩
  obtain ⟨f, hf⟩ := numAt_ex
  refine ⟨fun ap an ac bp bn bc wr => ∃ s t, IntsR wr ap an ac (digs s) /\ IntsR wr bp bn bc (digs t) /\ an <= 100000 /\ bn <= 100000 /\ Ext w wr /\ Nat.gcd s t = Nat.gcd x y, fun _ _ _ bp bn bc W => f W bp bn bc, ⟨x, y, (o4.ext X6).ints, o6.ints, by omega, by omega, (x2.trans X4).trans X6, rfl⟩, ?_⟩
  intro junk wr ap an ac bp bn bc ⟨s, t, ha, hb, han, hbn, hx, hg⟩
  have hbl := hb.1
  refine ifD (fun hlt => ?_) (fun hge => ?_)
  · have ht : 0 < t := by
      rcases Nat.eq_zero_or_pos t with e | e
      · subst e; rw [digs_zero] at hbl; simp at hbl; omega
      · exact e
    refine Ret.at (spec_l03Div_c ha hb (digs_limbs _) (digs_canon _) (by omega) han hbn) ?_
    rintro v w1 ⟨p1, n1, c1, p2, n2, c2, hv, o1, o2, y1⟩
    subst hv
    rw [val_digs, val_digs, emod_toNat] at o2
    have hn2 : n2 <= bn := by
      have := o2.1
      have := digs_mod_len (x := s) ht
      omega
    refine ⟨_, _, _, _, _, _, rfl, ⟨t, s % t, hb.ext y1, o2, hbn, by omega, hx.trans y1, by rw [gcd_step, hg]⟩, ?_⟩
    show f w1 p2 n2 c2 < f wr bp bn bc
    rw [hf _ _ _ _ _ o2, hf _ _ _ _ _ hb]
    exact Nat.mod_lt _ ht
  · have ht : t = 0 := by
      have : bn = 0 := by omega
      rw [this] at hbl
      exact digs_nil.1 (List.eq_nil_of_length_eq_zero hbl)
    subst ht
    rw [Nat.gcd_zero_right] at hg
    subst hg
    exact ⟨_, _, _, rfl, ha, hx⟩
def ratOk : List D0 -> Bool
  | [.bool s, .ints x, .ints y] => intOk [.bool s, .ints x] && natOk y && !y.isEmpty && decide (y.length <= 18) && decide (x.length <= 18) && decide (Nat.gcd (val x).toNat (val y).toNat = 1)
  | _ => false
theorem digs_one : digs 1 = [1] := by rw [digs_pos (by decide)]; simp [digs_zero]
theorem gcd_one {l : List Int} {g : Nat} (h : l = digs g) : (decide (g = 1)) = (decide (l.length = 1) && decide (l.getD 0 0 = 1)) := by
  subst h
  by_cases e : g = 1
  · subst e; rw [digs_one]; rfl
  · rw [decide_eq_false e]
    symm
    rw [Bool.and_eq_false_iff]
    by_cases h1 : (digs g).length = 1
    · right
      rw [decide_eq_false_iff_not]
      intro h2
      apply e
      have hv := val_digs g
      have := val_top (m := 0) h1
      rw [h2] at this
      simp [val] at this
      omega
    · left; simp [h1]
theorem impl_RatOk_c {w : World} {xs : List Value} {dx : List D0} (h : Reps w xs dx) (hc : dx.map D0.code = [.bool, .ints, .ints]) :
    Ret P n_impl_RatOk [.agg ⟨xs⟩] w fun v w' => v = .bool (ratOk dx) /\ Ext w w' := by
  have hr := h
  obtain ⟨a0, a1p, a1n, a1c, a1z, a2p, a2n, a2c, a2z, rfl, rfl, ir1, ir2⟩ := open_Rat h hc
  refine impl_RatOk_ret ?_
  unfold impl_RatOk
  intro r w1 hn1
  have l1 := ir1.1; have l2 := ir2.1
  have hi : Reps w1 [.bool a0, .slice a1p a1n a1c] [.bool a0, .ints a1z] := ⟨rfl, ⟨_, _, _, rfl, ir1.ext hn1.ext⟩, trivial⟩
  have b := hn1.blk
  refine ⟨_, _, _, _, b.loadAAt 0 [.bool a0, .slice a1p a1n a1c] rfl (by kernel_rfl) rfl, ?_⟩
  refine Ret.at (impl_IntOk_c hi rfl) ?_
  rintro v w2 ⟨hv, y2⟩
  subst hv
  have b2 := b.ext y2
  have X2 := hn1.ext.trans y2
  refine ⟨_, rfl, ifN (fun e => ifT (ifT (ifT (ifT ⟨by simp [ratOk, e], X2⟩)))) (fun e1 => ⟨_, _, _, b2.loadAt 2 rfl (by kernel_rfl) rfl, ?_⟩)⟩
  refine Ret.at (impl_NatOk_c (ir2.ext X2)) ?_
  rintro v w3 ⟨hv, y3⟩
  subst hv
  have b3 := b2.ext y3
  have X3 := X2.trans y3
  refine ⟨_, rfl, ifN (fun e => ifT (ifT (ifT ⟨by simp [ratOk, e], X3⟩))) (fun e2 => ⟨_, _, _, b3.loadAt 2 rfl (by kernel_rfl) rfl, ifD (fun e => ifT (ifT ⟨?_, X3⟩)) (fun e3 => ⟨_, _, _, b3.loadAt 2 rfl (by kernel_rfl) rfl, ifD (fun e => ifT ⟨?_, X3⟩) (fun e4 => ⟨_, _, _, b3.loadAt 1 rfl (by kernel_rfl) rfl, ifD (fun e => ⟨?_, X3⟩) (fun e5 => ?_)⟩)⟩)⟩)⟩
  · have : a2z = [] := List.eq_nil_of_length_eq_zero (by omega)
    simp [ratOk, this]
  · simp only [ratOk, show decide (a2z.length <= 18) = false by simp; omega, Bool.and_false, Bool.false_and]
  · simp only [ratOk, show decide (a1z.length <= 18) = false by simp; omega, Bool.and_false, Bool.false_and]
  unfold impl_RatOk_j0
  have ok1 := natOk_spec.1 e2
  have ok0 := (intOk_enc e1).2
  obtain ⟨b', z', ez, can1, _⟩ := ok0
  simp only [List.cons.injEq, D0.ints.injEq, D0.bool.injEq, and_true] at ez
  obtain ⟨_, rfl⟩ := ez
  have r1 := ir1.ext X3; have r2 := ir2.ext X3
  rw [<- digs_val can1] at r1
  rw [<- digs_val ok1.1] at r2
  refine ⟨_, _, _, b3.loadAt 1 rfl (by kernel_rfl) rfl, _, _, _, b3.loadAt 2 rfl (by kernel_rfl) rfl, ?_⟩
  refine Ret.at (impl_natGcd_c r1 r2 (by omega) (by omega)) ?_
  rintro v w4 ⟨p', n', c', hv, ho, y4⟩
  subst hv
  have hlen := ho.len
  simp only [List.length_map] at hlen
  have g := gcd_one (g := Nat.gcd (val a1z).toNat (val a2z).toNat) rfl
  have hne : a2z.isEmpty = false := by cases a2z with
    | nil => simp at l2; omega
    | cons => rfl
  have val' : ratOk [.bool a0, .ints a1z, .ints a2z] = decide (Nat.gcd (val a1z).toNat (val a2z).toNat = 1) := by
    simp only [ratOk, e1, e2, hne, show decide (a2z.length <= 18) = true by simp; omega, show decide (a1z.length <= 18) = true by simp; omega, Bool.not_false, Bool.and_self, Bool.true_and]
  rw [val', g]
  refine ⟨_, _, _, rfl, ifD (fun h1 => ?_) (fun h1 => ⟨?_, X3.trans y4⟩)⟩
  · obtain ⟨ad, rfl, hl⟩ := ints_at ho.ints (i := 0) (by omega) (by omega)
    refine ⟨⟨by omega, by omega⟩, _, by simpa only [Int.toNat_zero] using hl, ?_, X3.trans y4⟩
    rw [show decide ((digs (Nat.gcd (val a1z).toNat (val a2z).toNat)).length = 1) = true by simp; omega, Bool.true_and]
  · rw [show decide ((digs (Nat.gcd (val a1z).toNat (val a2z).toNat)).length = 1) = false by simp; omega, Bool.false_and]
theorem spec_RatOk_c {w : World} {xs : List Value} {dx : List D0} (h : Reps w xs dx) (hc : dx.map D0.code = [.bool, .ints, .ints]) :
    Ret P n_spec_RatOk [.agg ⟨xs⟩] w fun v w' => v = .bool (ratOk dx) /\ Ext w w' := by
  have hr := h
  obtain ⟨a0, a1p, a1n, a1c, a1z, a2p, a2n, a2c, a2z, rfl, rfl, ir1, ir2⟩ := open_Rat h hc
  refine spec_RatOk_ret ?_
  unfold spec_RatOk
  intro r w1 hn1
  have l1 := ir1.1; have l2 := ir2.1
  have hi : Reps w1 [.bool a0, .slice a1p a1n a1c] [.bool a0, .ints a1z] := ⟨rfl, ⟨_, _, _, rfl, ir1.ext hn1.ext⟩, trivial⟩
  have b := hn1.blk
  refine ⟨_, _, _, _, b.loadAAt 0 [.bool a0, .slice a1p a1n a1c] rfl (by kernel_rfl) rfl, ?_⟩
  refine Ret.at (spec_IntOk_c hi rfl) ?_
  rintro v w2 ⟨hv, y2⟩
  subst hv
  have b2 := b.ext y2
  have X2 := hn1.ext.trans y2
  refine ⟨_, rfl, ifN (fun e => ifT (ifT (ifT (ifT ⟨by simp [ratOk, e], X2⟩)))) (fun e1 => ⟨_, _, _, b2.loadAt 2 rfl (by kernel_rfl) rfl, ?_⟩)⟩
  refine Ret.at (spec_NatOk_c (ir2.ext X2)) ?_
  rintro v w3 ⟨hv, y3⟩
  subst hv
  have b3 := b2.ext y3
  have X3 := X2.trans y3
  refine ⟨_, rfl, ifN (fun e => ifT (ifT (ifT ⟨by simp [ratOk, e], X3⟩))) (fun e2 => ⟨_, _, _, b3.loadAt 2 rfl (by kernel_rfl) rfl, ifD (fun e => ifT (ifT ⟨?_, X3⟩)) (fun e3 => ⟨_, _, _, b3.loadAt 2 rfl (by kernel_rfl) rfl, ifD (fun e => ifT ⟨?_, X3⟩) (fun e4 => ⟨_, _, _, b3.loadAt 1 rfl (by kernel_rfl) rfl, ifD (fun e => ⟨?_, X3⟩) (fun e5 => ?_)⟩)⟩)⟩)⟩
  · have : a2z = [] := List.eq_nil_of_length_eq_zero (by omega)
    simp [ratOk, this]
  · simp only [ratOk, show decide (a2z.length <= 18) = false by simp; omega, Bool.and_false, Bool.false_and]
  · simp only [ratOk, show decide (a1z.length <= 18) = false by simp; omega, Bool.and_false, Bool.false_and]
  have ok1 := natOk_spec.1 e2
  have ok0 := (intOk_enc e1).2
  obtain ⟨b', z', ez, can1, _⟩ := ok0
  simp only [List.cons.injEq, D0.ints.injEq, D0.bool.injEq, and_true] at ez
  obtain ⟨_, rfl⟩ := ez
  have r1 := ir1.ext X3; have r2 := ir2.ext X3
  rw [<- digs_val can1] at r1
  rw [<- digs_val ok1.1] at r2
  refine ⟨_, _, _, b3.loadAt 1 rfl (by kernel_rfl) rfl, _, _, _, b3.loadAt 2 rfl (by kernel_rfl) rfl, ?_⟩
  refine Ret.at (spec_NatGcd_c r1 r2 (by omega) (by omega)) ?_
  rintro v w4 ⟨p', n', c', hv, ho, y4⟩
  subst hv
  have hne : a2z.isEmpty = false := by cases a2z with
    | nil => simp at l2; omega
    | cons => rfl
  have val' : ratOk [.bool a0, .ints a1z, .ints a2z] = decide (Nat.gcd (val a1z).toNat (val a2z).toNat = 1) := by
    simp only [ratOk, e1, e2, hne, show decide (a2z.length <= 18) = true by simp; omega, show decide (a1z.length <= 18) = true by simp; omega, Bool.not_false, Bool.and_self, Bool.true_and]
  refine ⟨_, _, _, rfl, fun r5 w5 hn5 => ?_⟩
  have one : IntsR w5 (some ⟨r5, 0, none⟩) 1 1 [1] := ⟨rfl, Nat.le_refl _, by omega, fun _ => ⟨_, 0, rfl, hn5.blk.seg⟩⟩
  refine Ret.at (spec_l02Cmp_c (ho.ext hn5.ext) one) ?_
  rintro v w6 ⟨hv, y6⟩
  subst hv
  refine ⟨_, rfl, ?_, X3.trans (y4.trans (hn5.ext.trans y6))⟩
  rw [val', <- digs_one]
  by_cases e : Nat.gcd (val a1z).toNat (val a2z).toNat = 1
  · have h0 : cmpL (digs (Nat.gcd (val a1z).toNat (val a2z).toNat)) (digs 1) = 0 := cmpL_zero.2 (congrArg digs e)
    rw [decide_eq_true h0, decide_eq_true e]
  · have : ¬ cmpL (digs (Nat.gcd (val a1z).toNat (val a2z).toNat)) (digs 1) = 0 := fun hc => e (digs_inj (cmpL_zero.1 hc))
    rw [decide_eq_false this, decide_eq_false e]
end Go.Proofs.YtbgokfhcgcoipaaGreatDoor
namespace Go.Proofs.YtbgokfhcgcoipaaGreatDoor
open Go Go.Proofs.YtbgokfhcgcoipaaGreatDoor.Sx
def tenL (k : Nat) : List Int := List.replicate (k / 9) 0 ++ [10 ^ (k % 9)]
theorem val_zeros : ∀ s : Nat, val (List.replicate s 0) = 0
  | 0 => rfl
  | s + 1 => by simp [List.replicate_succ, val, val_zeros s]
theorem ten_small {j : Nat} (h : j < 9) : (1 : Int) <= 10 ^ j /\ (10 : Int) ^ j <= 100000000 := by
  have : j = 0 ∨ j = 1 ∨ j = 2 ∨ j = 3 ∨ j = 4 ∨ j = 5 ∨ j = 6 ∨ j = 7 ∨ j = 8 := by omega
  rcases this with h | h | h | h | h | h | h | h | h <;> subst h <;> decide
theorem tenL_canon (k : Nat) : Canon (tenL k) := by
  have h := ten_small (j := k % 9) (by omega)
  refine ⟨Limbs.append.2 ⟨fun x hx => by simp at hx; omega, Limbs.cons.2 ⟨by omega, Limbs.nil⟩⟩, ?_⟩
  simp only [tenL, List.getLast?_append, List.getLast?_singleton, Option.some_or, ne_eq, Option.some.injEq]
  omega
theorem val_tenL (k : Nat) : val (tenL k) = 10 ^ k := by
  unfold tenL
  rw [val_snoc, val_zeros, List.length_replicate, Int.zero_add]
  have : (1000000000 : Int) = 10 ^ 9 := by decide
  rw [this, <- Int.pow_mul, <- Int.pow_add]
  congr 1
  omega
theorem tenL_digs (k : Nat) : tenL k = digs (10 ^ k) := by
  have := digs_val (tenL_canon k)
  rw [val_tenL] at this
  rw [<- this]
  congr 1
theorem impl_natTen_c {w : World} {k : Int} (h0 : 0 <= k) (h1 : k <= 1000) :
    Ret P n_impl_natTen [.int .i64 k] w fun v w' => ∃ p' n' c', v = .slice p' n' c' /\ Own w' w.heap.size T_int 1 p' n' c' ((digs (10 ^ k.toNat)).map (Value.int .i64)) /\ Ext w w' := by
  refine impl_natTen_ret ?_
  unfold impl_natTen
  have ed : Int.tdiv k 9 = k / 9 := Int.tdiv_eq_ediv_of_nonneg h0
  have em : Int.tmod k 9 = k % 9 := Int.tmod_eq_emod_of_nonneg h0
  rw [ed, em]
  refine ⟨by decide, exW ⟨by omega, by omega⟩ ⟨by decide, exW ⟨by omega, by omega⟩ (exW ⟨by omega, by omega⟩ ⟨⟨by omega, by omega, by omega⟩, fun r w1 hn1 => ?_⟩)⟩⟩
  have hre := hn1.r_eq
  refine ⟨by decide, _, rfl, fun top i wr => ∃ j : Nat, i = j /\ (j : Int) <= k % 9 /\ wr = w1 /\ top = 10 ^ j, fun _ i _ => 9 - i.toNat, ⟨0, rfl, by omega, rfl, rfl⟩, ?_⟩
  intro junk wr top i ⟨j, hi, hj, hw, ht⟩
  subst hi; subst hw; subst ht
  have T := ten_small (j := j) (by omega)
  refine ifD (fun hlt => ?_) (fun hge => ?_)
  · refine exW ⟨by omega, by omega⟩ (exW ⟨by omega, by omega⟩ ⟨⟨j + 1, by omega, by omega, rfl, by rw [Int.pow_succ]⟩, ?_⟩)
    show 9 - ((j : Int) + 1).toNat < 9 - (j : Int).toNat
    omega
  · intro r1 w2 hn2
    have hblk : Blk wr r T_int (List.replicate ((k / 9 + 1).toNat) (Value.int .i64 0)) := by
      have := hn1.blk
      rwa [zeroRow_int, Nat.mul_one] at this
    have hown : Own wr w.heap.size T_int 1 (some ⟨r, 0, none⟩) (k / 9).toNat (k / 9 + 1).toNat ((List.replicate (k / 9).toNat (0 : Int)).map (Value.int .i64)) := by
      have hfull : Own wr w.heap.size T_int 1 (some ⟨r, 0, none⟩) (k / 9 + 1).toNat (k / 9 + 1).toNat ((List.replicate (k / 9 + 1).toNat (0 : Int)).map (Value.int .i64)) := by
        rw [List.map_replicate]
        exact Own.of_blk hblk (by omega) (by simp) (by simp only [maxLen]; omega)
      have := hfull.sub (m := (k / 9).toNat) (by omega)
      rwa [List.take_replicate, show min (k / 9).toNat (k / 9 + 1).toNat = (k / 9).toNat by omega] at this
    obtain ⟨p', c', w3, g1, g2, g3⟩ := Own.push hown hn1.ext.le hn2 (by omega)
    refine ⟨_, _, _, _, g1, _, _, _, rfl, ?_, g3 w hn1.ext (Nat.le_refl _)⟩
    rw [<- tenL_digs]
    have ej : j = k.toNat % 9 := by omega
    have ek : (k / 9).toNat = k.toNat / 9 := by omega
    rw [ej, ek] at g2
    rw [ek]
    exact g2
end Go.Proofs.YtbgokfhcgcoipaaGreatDoor
namespace Go.Proofs.YtbgokfhcgcoipaaGreatDoor
open Go Go.Proofs.YtbgokfhcgcoipaaGreatDoor.Sx
def decOk : List D0 -> Bool
  | [.bool b, .ints z, .int s] => intOk [.bool b, .ints z] && decide (z.length <= 6) && decide (0 <= s /\ s <= 30)
  | _ => false
theorem impl_isScale_c (s : Int) (w : World) : Ret P n_impl_isScale [.int .i64 s] w fun v w' => v = .bool (decide (0 <= s /\ s <= 30)) /\ w' = w := by
  refine impl_isScale_ret ?_
  unfold impl_isScale
  refine ifD (fun h => ⟨?_, rfl⟩) (fun h => ⟨?_, rfl⟩) <;> simp [h]
theorem impl_DecOk_c {w : World} {xs : List Value} {dx : List D0} (h : Reps w xs dx) (hc : dx.map D0.code = [.bool, .ints, .int]) :
    Ret P n_impl_DecOk [.agg ⟨xs⟩] w fun v w' => v = .bool (decOk dx) /\ Ext w w' := by
  obtain ⟨a0, a1p, a1n, a1c, a1z, a2, rfl, rfl, ha⟩ := open_Dec h hc
  refine impl_DecOk_ret ?_
  unfold impl_DecOk
  intro r w1 hn1
  have x := hn1.ext
  have hl := ha.1
  refine ⟨_, _, _, _, hn1.blk.loadAAt 0 [.bool a0, .slice a1p a1n a1c] rfl (by kernel_rfl) rfl, ?_⟩
  refine Ret.at (impl_IntOk_c (dx := [.bool a0, .ints a1z]) ⟨rfl, ⟨_, _, _, rfl, ha.ext x⟩, trivial⟩ rfl) ?_
  rintro v w2 ⟨hv, y⟩
  subst hv
  have x := x.trans y; have b := hn1.blk.ext y
  refine ⟨_, rfl, fun e => ⟨_, _, _, b.loadAt 1 rfl (by kernel_rfl) rfl, ifD (fun hle => ?_) (fun hgt => ⟨?_, x⟩)⟩, fun e => ifF ⟨?_, x⟩⟩
  · refine ⟨_, b.loadAt 2 rfl (by kernel_rfl) rfl, ?_⟩
    refine Ret.at (impl_isScale_c a2 w2) ?_
    rintro v w3 ⟨hv, hw⟩
    subst hv; subst hw
    exact ⟨_, rfl, by simp only [decOk, e, show decide (a1z.length <= 6) = true by simp; omega, Bool.true_and], x⟩
  · simp only [decOk, show decide (a1z.length <= 6) = false by simp; omega, Bool.and_false, Bool.false_and]
  · simp only [decOk, e, Bool.false_and]
end Go.Proofs.YtbgokfhcgcoipaaGreatDoor
namespace Go.Proofs.YtbgokfhcgcoipaaGreatDoor
open Go Go.Proofs.YtbgokfhcgcoipaaGreatDoor.Sx
def sgn (z : Int) : Int := if z < 0 then -1 else if z = 0 then 0 else 1
theorem impl_intSign_c {w : World} {xs : List Value} {z : Int} (h : Reps w xs (enc z)) : Ret P n_impl_intSign [.agg ⟨xs⟩] w fun v w' => v = .int .i64 (sgn z) /\ Ext w w' := by
  obtain ⟨a0, a1p, a1n, a1c, a1z, rfl, hd, ha⟩ := open_Signed h rfl
  simp only [enc, List.cons.injEq, D0.bool.injEq, D0.ints.injEq, and_true] at hd
  obtain ⟨rfl, rfl⟩ := hd
  have hl := ha.1
  have he := isEmpty_digs (n := z.natAbs)
  refine impl_intSign_ret ?_
  unfold impl_intSign
  intro r w1 hn
  have hzero : (a1n = 0) ↔ z = 0 := by
    rw [<- hl, List.length_eq_zero_iff, digs_nil]; omega
  refine ⟨_, _, _, hn.blk.load (by kernel_rfl) rfl, ifD (fun h0 => ⟨?_, hn.ext⟩) (fun h0 => ⟨_, hn.blk.load (by kernel_rfl) rfl, fun e => ⟨?_, hn.ext⟩, fun e => ⟨?_, hn.ext⟩⟩)⟩
  · have : z = 0 := hzero.1 (by omega)
    subst this; rfl
  · have e := of_decide_eq_true e
    simp [sgn, e]
  · have e := of_decide_eq_false e
    have : z ≠ 0 := fun h => h0 (by have := hzero.2 h; omega)
    simp [sgn, e, this]
theorem impl_intNeg_c {w : World} {xs : List Value} {z : Int} (h : Reps w xs (enc z)) (hz : (digs z.natAbs).length <= 10000000) : Ret P n_impl_intNeg [.agg ⟨xs⟩] w fun v w' => ∃ vs' f, v = .agg ⟨vs'⟩ /\ Owns w' w.heap.size vs' (enc (-z)) f /\ f.Nodup /\ Ext w w' := by
  obtain ⟨a0, a1p, a1n, a1c, a1z, rfl, hd, ha⟩ := open_Signed h rfl
  simp only [enc, List.cons.injEq, D0.bool.injEq, D0.ints.injEq, and_true] at hd
  obtain ⟨rfl, rfl⟩ := hd
  have hl := ha.1
  refine impl_intNeg_ret ?_
  unfold impl_intNeg
  intro r w1 hn1 r1 w2 hn2
  have x := hn1.ext.trans hn2.ext
  have D := Ext.drew w2
  have XD := x.trans D
  have k0 := hn1.blk.ext hn2.ext
  have e2 := hn2.r_eq; have s1 := hn1.size; have s2 := hn2.size
  refine ⟨_, fun W hW => (k0.ext (D.trans hW)).load (by kernel_rfl) rfl, _, _, _, fun W hW => (k0.ext (D.trans hW)).load (by kernel_rfl) rfl, ?_⟩
  refine Ret.at (impl_natCopy_c (ha.ext XD) (by omega)) ?_
  rintro v w3 ⟨p, c, hv, ho, y3⟩
  subst hv
  refine ⟨_, _, _, rfl, y3, ?_⟩
  refine Ret.at (impl_signed_c ho.ints.1) ?_
  rintro v w4 ⟨hv, y4⟩
  subst hv
  have lD := D.le
  obtain ⟨w5, st, hb5, ch, sz⟩ := (((hn2.blk.ext D).ext y3).ext y4).storeA0 (P := P) (t := T_impl_Signed) (xs := [.bool (!(decide (z < 0)) && !(digs z.natAbs).isEmpty), .slice p a1n c]) (by kernel_rfl) rfl (by simp [Value.oneCell'])
  refine ⟨_, _, _, _, rfl, w5, st, _, _, _, _, hb5.loadA0 (by kernel_rfl), _, _, rfl, ?_, nodup_opt p, ((XD.trans y3).trans y4).chg ch (by simp; omega)⟩
  have eb : (!(decide (z < 0)) && !(digs z.natAbs).isEmpty) = decide (-z < 0) := by
    rw [isEmpty_digs]
    by_cases h0 : z = 0
    · subst h0; rfl
    · by_cases h1 : z < 0
      · have : ¬ (-z < 0) := by omega
        simp [h1]; omega
      · have h2 : z.natAbs ≠ 0 := by omega
        simp [h1, h0]; omega
  rw [eb]
  have := ((Owns.int2 (b := decide (-z < 0)) (ho.ext y4)).chg1 ch (by omega)).mono (B' := w.heap.size) (by omega)
  unfold enc
  rw [Int.natAbs_neg]
  exact this
theorem impl_intCmp_c {w : World} {xs ys : List Value} {x y : Int} (h : Reps w xs (enc x)) (k : Reps w ys (enc y)) (hx : (digs x.natAbs).length <= 10000000) (hy : (digs y.natAbs).length <= 10000000) :
    Ret P n_impl_intCmp [.agg ⟨xs⟩, .agg ⟨ys⟩] w fun v w' => v = .int .i64 (sgn (x - y)) /\ Ext w w' := by
  have hr := h; have kr := k
  obtain ⟨a0, a1p, a1n, a1c, a1z, rfl, hd, ha⟩ := open_Signed h rfl
  obtain ⟨b0, b1p, b1n, b1c, b1z, rfl, he, hb⟩ := open_Signed k rfl
  refine impl_intCmp_ret ?_
  unfold impl_intCmp
  intro r w1 hn1 r1 w2 hn2
  have X := hn1.ext.trans hn2.ext
  have D := Ext.drew w2
  have XD := X.trans D
  have k0 := hn1.blk.ext hn2.ext; have k1 := hn2.blk
  refine ⟨_, _, _, _, fun W hW => (k0.ext (D.trans hW)).loadA0 (by kernel_rfl), _, _, _, _, fun W hW => (k1.ext (D.trans hW)).loadA0 (by kernel_rfl), ?_⟩
  refine Ret.at (impl_intNeg_c (kr.ext XD) hy) ?_
  rintro v w3 ⟨vs', f, hv, ho, _, y3⟩
  subst hv
  obtain ⟨q0, q1p, q1n, q1c, q1z, rfl, hq, hqi⟩ := open_Signed ho.reps (enc_code _)
  refine ⟨_, _, _, _, rfl, y3, ?_⟩
  refine Ret.at (impl_intAdd_c (hr.ext (XD.trans y3)) ho.reps hx (by rw [Int.natAbs_neg]; exact hy)) ?_
  rintro v w4 ⟨p, n, c, hv, hown, y4⟩
  subst hv
  refine ⟨_, _, _, _, rfl, ?_⟩
  have hs : Reps w4 [.bool (decide (x + -y < 0)), .slice p n c] (enc (x + -y)) := ⟨rfl, ⟨_, _, _, rfl, hown.ints⟩, trivial⟩
  refine Ret.at (impl_intSign_c hs) ?_
  rintro v w5 ⟨hv, y5⟩
  subst hv
  exact ⟨_, rfl, rfl, ((XD.trans y3).trans y4).trans y5⟩
end Go.Proofs.YtbgokfhcgcoipaaGreatDoor
namespace Go.Proofs.YtbgokfhcgcoipaaGreatDoor
open Go Go.Proofs.YtbgokfhcgcoipaaGreatDoor.Sx
theorem impl_scaled_1_c {w : World} {xs : List Value} {b : Bool} {z : List Int} {s sc : Int} {cb : Nat} {e : TypeId} (h : Reps w xs [.bool b, .ints z, .int s]) (hz : Limbs z) (hl : z.length <= 1000) (hs : 0 <= s) (hss : s <= sc) (hsc : sc <= 30) (hcap : Blk w cb e [.int .i64 sc]) :
    Ret P n_impl_scaled_1 [.agg ⟨xs⟩, .pointer (some ⟨cb, 0, none⟩)] w fun v w' => ∃ vs' f, v = .agg ⟨vs'⟩ /\ Owns w' w.heap.size vs' (mkS b (digs (val z * 10 ^ (sc - s).toNat).toNat)) f /\ f.Nodup /\ Ext w w' := by
  obtain ⟨a0, a1p, a1n, a1c, a1z, a2, rfl, hd, ha⟩ := open_Dec h rfl
  cases hd
  have hlz := ha.1
  refine impl_scaled_1_ret ?_
  unfold impl_scaled_1
  intro r w1 hn1 r1 w2 hn2
  have X := hn1.ext.trans hn2.ext
  have D := Ext.drew w2
  have XD := X.trans D
  have k0 := hn1.blk.ext hn2.ext
  have e2 := hn2.r_eq; have s1 := hn1.size; have s2 := hn2.size
  have lD := D.le
  refine ⟨_, fun W hW => (k0.ext (D.trans hW)).loadAt 0 rfl (by kernel_rfl) rfl, _, _, _, fun W hW => (k0.ext (D.trans hW)).loadAt 1 rfl (by kernel_rfl) rfl, _, fun W hW => (hcap.ext (XD.trans hW)).load0 (by kernel_rfl) rfl, _, fun W hW => (k0.ext (D.trans hW)).loadAt 2 rfl (by kernel_rfl) rfl, exW ⟨by omega, by omega⟩ ?_⟩
  refine Ret.at (impl_natTen_c (by omega) (by omega)) ?_
  rintro v w3 ⟨p, n, c, hv, ho, y3⟩
  subst hv
  have hlen : n <= 4 := by
    have := ho.ints.1
    rw [<- tenL_digs] at this
    simp [tenL] at this
    omega
  refine ⟨_, _, _, rfl, y3, ?_⟩
  refine Ret.at (impl_natMul_c (ha.ext (XD.trans y3)) ho.ints hz (digs_limbs _) (by omega) (by omega)) ?_
  rintro v w4 ⟨p2, n2, c2, hv, ho2, y4⟩
  subst hv
  rw [val_digs] at ho2
  refine ⟨_, _, _, rfl, y4, ?_⟩
  refine Ret.at (impl_signed_c ho2.ints.1) ?_
  rintro v w5 ⟨hv, y5⟩
  subst hv
  have l3 := y3.le
  obtain ⟨B, hB⟩ : ∃ B, B = (b && !(digs (val z * ((10 ^ (sc - s).toNat : Nat) : Int)).toNat).isEmpty) := ⟨_, rfl⟩
  rw [<- hB]
  obtain ⟨w6, st, hb6, ch, sz⟩ := ((((hn2.blk.ext D).ext y3).ext y4).ext y5).storeA0 (P := P) (t := T_impl_Signed) (xs := [.bool B, .slice p2 n2 c2]) (by kernel_rfl) rfl (by simp [Value.oneCell'])
  refine ⟨_, _, _, _, rfl, w6, st, _, _, _, _, hb6.loadA0 (by kernel_rfl), _, _, rfl, ?_, nodup_opt p2, (((XD.trans y3).trans y4).trans y5).chg ch (by simp; omega)⟩
  have e10 : ((10 ^ (sc - s).toNat : Nat) : Int) = (10 : Int) ^ (sc - s).toNat := by simp
  rw [<- e10]
  unfold mkS
  rw [<- hB]
  exact ((Owns.int2 (ho2.ext y5)).chg1 ch (by omega)).mono (by omega)
end Go.Proofs.YtbgokfhcgcoipaaGreatDoor
namespace Go.Proofs.YtbgokfhcgcoipaaGreatDoor
open Go Go.Proofs.YtbgokfhcgcoipaaGreatDoor.Sx
def dcmp : List D0 -> List D0 -> Int
  | [.bool a, .ints x, .int s], [.bool b, .ints y, .int t] => if decOk [.bool a, .ints x, .int s] && decOk [.bool b, .ints y, .int t] then
      sgn (ival [.bool a, .ints x] * 10 ^ (max s t - s).toNat - ival [.bool b, .ints y] * 10 ^ (max s t - t).toNat) else 0
  | _, _ => 0
theorem mkS_mul {b : Bool} {z : List Int} {m : Int} (hok : intOk [.bool b, .ints z] = true) (hm : 0 < m) : mkS b (digs (val z * m).toNat) = enc (ival [.bool b, .ints z] * m) := by
  obtain ⟨_, _, _, he, hc, _⟩ := intOk_enc hok
  simp only [List.cons.injEq, D0.bool.injEq, D0.ints.injEq, and_true] at he
  obtain ⟨rfl, rfl⟩ := he
  have hv := val_nonneg hc.1
  have hp : 0 <= val z * m := Int.mul_nonneg hv (Int.le_of_lt hm)
  obtain ⟨N, hN⟩ : ∃ N : Nat, val z * m = N := ⟨(val z * m).toNat, by omega⟩
  cases b with
  | false => simp only [ival, Bool.false_eq_true, if_false, hN, Int.toNat_natCast]; exact mkS_pos N
  | true => simp only [ival, if_true, Int.neg_mul, hN, Int.toNat_natCast]; exact mkS_neg N
theorem scaled_len {b : Bool} {z : List Int} {e : Nat} (hok : intOk [.bool b, .ints z] = true) (hl : z.length <= 6) (he : e <= 30) : (digs (ival [.bool b, .ints z] * 10 ^ e).natAbs).length <= 10 := by
  obtain ⟨_, _, _, h1, hc, _⟩ := intOk_enc hok
  simp only [List.cons.injEq, D0.bool.injEq, D0.ints.injEq, and_true] at h1
  obtain ⟨rfl, rfl⟩ := h1
  have hv := val_nonneg hc.1
  have hlt := val_lt hc.1
  have h6 : (1000000000 : Nat) ^ z.length <= 1000000000 ^ 6 := Nat.pow_le_pow_right (by decide) hl
  have h6' := Int.ofNat_le.2 h6
  rw [Int.natCast_pow, Int.natCast_pow] at h6'
  have hn : (val z).toNat < 1000000000 ^ 6 := by
    have : val z < (1000000000 : Int) ^ 6 := Int.lt_of_lt_of_le hlt h6'
    omega
  have ha : (ival [.bool b, .ints z]).natAbs = (val z).toNat := by cases b <;> simp only [ival, if_true, Bool.false_eq_true, if_false] <;> omega
  have h10 : ((10 : Int) ^ e).natAbs = 10 ^ e := by simp [Int.natAbs_pow]
  have h30 : (10 : Nat) ^ e <= 10 ^ 30 := Nat.pow_le_pow_right (by decide) he
  apply digs_len
  rw [Int.natAbs_mul, ha, h10]
  exact Nat.lt_of_lt_of_le (Nat.mul_lt_mul_of_lt_of_le hn h30 (by decide)) (by decide)
theorem decOk_spec {b : Bool} {z : List Int} {s : Int} (h : decOk [.bool b, .ints z, .int s] = true) : intOk [.bool b, .ints z] = true /\ z.length <= 6 /\ 0 <= s /\ s <= 30 := by
  simp only [decOk, Bool.and_eq_true, decide_eq_true_eq] at h
  exact ⟨h.1.1, h.1.2, h.2.1, h.2.2⟩
theorem impl_DecCmp_c {w : World} {xs ys : List Value} {dx dy : List D0} (h : Reps w xs dx) (k : Reps w ys dy) (hc : dx.map D0.code = [.bool, .ints, .int]) (kc : dy.map D0.code = [.bool, .ints, .int]) :
    Ret P n_impl_DecCmp [.agg ⟨xs⟩, .agg ⟨ys⟩] w fun v w' => v = .int .i64 (dcmp dx dy) /\ Ext w w' := by
  have hr := h; have kr := k
  obtain ⟨a0, a1p, a1n, a1c, a1z, a2, rfl, rfl, ha⟩ := open_Dec h hc
  obtain ⟨b0, b1p, b1n, b1c, b1z, b2, rfl, rfl, hb⟩ := open_Dec k kc
  refine impl_DecCmp_ret ?_
  unfold impl_DecCmp
  intro r w1 hn1 r1 w2 hn2
  have X := hn1.ext.trans hn2.ext
  have k0 := hn1.blk.ext hn2.ext; have k1 := hn2.blk
  have bad : ∀ W, Ext w2 W -> (decOk [.bool a0, .ints a1z, .int a2] && decOk [.bool b0, .ints b1z, .int b2]) = false -> Value.int .i64 0 = .int .i64 (dcmp [.bool a0, .ints a1z, .int a2] [.bool b0, .ints b1z, .int b2]) /\ Ext w W := fun W hW hno => ⟨by simp only [dcmp, hno]; rfl, X.trans hW⟩
  refine ⟨_, _, _, _, _, k0.loadA0 (by kernel_rfl), ?_⟩
  refine Ret.at (impl_DecOk_c (hr.ext X) rfl) ?_
  rintro v w3 ⟨hv, y3⟩
  subst hv
  refine ⟨_, rfl, ifN (fun hno => ifT (bad w3 y3 (by simp [hno]))) (fun hok1 => ?_)⟩
  refine ⟨_, _, _, _, _, (k1.ext y3).loadA0 (by kernel_rfl), ?_⟩
  refine Ret.at (impl_DecOk_c (kr.ext (X.trans y3)) rfl) ?_
  rintro v w4 ⟨hv, y4⟩
  subst hv
  refine ⟨_, rfl, ifN (fun hno => bad w4 (y3.trans y4) (by simp [hno])) (fun hok2 => ?_)⟩
  obtain ⟨o1, l1, s1, t1⟩ := decOk_spec hok1
  obtain ⟨o2, l2, s2, t2⟩ := decOk_spec hok2
  have X4 := (X.trans y3).trans y4
  have k0 := (k0.ext y3).ext y4; have k1 := (k1.ext y3).ext y4
  unfold impl_DecCmp_j0
  have emax : (if b2 > a2 then b2 else a2) = max a2 b2 := by split <;> omega
  refine ⟨_, k0.loadAt 2 rfl (by kernel_rfl) rfl, _, k1.loadAt 2 rfl (by kernel_rfl) rfl, _, rfl, ?_⟩
  rw [emax]
  refine Ret.at (R := fun v w' => ∃ r, v = .func (.func n_impl_scaled_1) ⟨[]⟩ ⟨[.pointer (some ⟨r, 0, none⟩)]⟩ /\ Blk w' r T_int [.int .i64 (max a2 b2)] /\ Ext w4 w') ?_ ?_
  · refine impl_scaled_ret ?_
    unfold impl_scaled
    intro r5 w5 hn5
    exact ⟨r5, rfl, hn5.blk, hn5.ext⟩
  rintro v w5 ⟨r5, hv, hb5, y5⟩
  subst hv
  have D := Ext.drew w5
  have X5 := (X4.trans y5).trans D
  have q0 := (k0.ext y5).ext D; have q1 := (k1.ext y5).ext D
  have la := (intOk_enc o1).2
  obtain ⟨_, _, h1, c1, _⟩ := la
  simp only [List.cons.injEq, D0.bool.injEq, D0.ints.injEq, and_true] at h1
  obtain ⟨rfl, rfl⟩ := h1
  obtain ⟨_, _, h2, c2, _⟩ := (intOk_enc o2).2
  simp only [List.cons.injEq, D0.bool.injEq, D0.ints.injEq, and_true] at h2
  obtain ⟨rfl, rfl⟩ := h2
  have p1 : (0 : Int) < 10 ^ (max a2 b2 - a2).toNat := Int.pow_pos (by decide)
  have p2 : (0 : Int) < 10 ^ (max a2 b2 - b2).toNat := Int.pow_pos (by decide)
  refine ⟨_, rfl, _, _, _, _, _, fun W hW => (q0.ext hW).loadA0 (by kernel_rfl), _, _, _, rfl, by kernel_rfl, ?_⟩
  refine Calls.mono (impl_scaled_1_c (hr.ext X5) c1.1 (by omega) (by omega) (by omega) (by omega) (hb5.ext D)) ?_
  rintro e w6 ⟨v, he, vs1, f1, hv, ho1, _, y6⟩
  subst hv
  rw [mkS_mul o1 p1] at ho1
  obtain ⟨g0, gp, gn, gc, gz, rfl, hg, hgi⟩ := open_Signed ho1.reps (enc_code _)
  refine ⟨_, _, _, _, he, y6, _, _, _, _, _, fun W hW => (q1.ext hW).loadA0 (by kernel_rfl), _, _, _, rfl, by kernel_rfl, ?_⟩
  refine Calls.mono (impl_scaled_1_c (kr.ext (X5.trans y6)) c2.1 (by omega) (by omega) (by omega) (by omega) ((hb5.ext D).ext y6)) ?_
  rintro e w7 ⟨v, he2, vs2, f2, hv, ho2, _, y7⟩
  subst hv
  rw [mkS_mul o2 p2] at ho2
  obtain ⟨g20, g2p, g2n, g2c, g2z, rfl, hg2, hgi2⟩ := open_Signed ho2.reps (enc_code _)
  refine ⟨_, _, _, _, he2, ?_⟩
  refine Ret.at (impl_intCmp_c (ho1.reps.ext y7) ho2.reps (Nat.le_trans (scaled_len o1 l1 (by omega)) (by decide)) (Nat.le_trans (scaled_len o2 l2 (by omega)) (by decide))) ?_
  rintro v w8 ⟨hv, y8⟩
  subst hv
  refine ⟨_, rfl, ?_, ((X5.trans y6).trans y7).trans y8⟩
  simp only [dcmp, hok1, hok2, Bool.and_self, if_true]
end Go.Proofs.YtbgokfhcgcoipaaGreatDoor
namespace Go.Proofs.YtbgokfhcgcoipaaGreatDoor
open Go Go.Proofs.YtbgokfhcgcoipaaGreatDoor.Sx
theorem Sx.Fl.got {os : List Obj} {ss : List (Option Nat)} {w : World} {ss' : List (Option Nat)} {w' : World} (h : Fl os ss w ss' w') : ∀ {k r : Nat} {o : Obj}, ss[k]? = some none -> os[k]? = some o -> ss'[k]? = some (some r) -> w.heap.size <= r /\ w'.heap[r]? = some o := by
  induction h with
  | refl => intro k r o h0 _ h1; rw [h0] at h1; cases h1
  | step h1 h2 h3 ih =>
    rename_i ss w k' o' ss' w'
    intro k r o h0 ho hr
    by_cases hk : k' = k
    · subst hk
      rw [h2] at ho
      cases ho
      have hset : (ss.set k' (some w.heap.size))[k']? = some (some w.heap.size) := by
        rw [List.getElem?_set_self]
        exact (List.getElem?_eq_some_iff.1 h1).1
      have := h3.keeps hset
      rw [this] at hr
      cases hr
      exact ⟨Nat.le_refl _, (h3.ext.block _ (by simp)).trans (heap_alloc_new w _)⟩
    · obtain ⟨a, b⟩ := ih (k := k) (r := r) (o := o) (by rw [List.getElem?_set_ne hk]; exact h0) ho hr
      refine ⟨?_, b⟩
      have : w.heap.size <= (w.alloc o').heap.size := by simp
      omega
theorem impl_intCopy_c {w : World} {xs : List Value} {dx : List D0} (h : Reps w xs dx) (hc : dx.map D0.code = [.bool, .ints]) (hb : bulks dx <= 100000000) :
    Ret P n_impl_intCopy [.agg ⟨xs⟩] w fun v w' => ∃ vs' f, v = .agg ⟨vs'⟩ /\ Owns w' w.heap.size vs' dx f /\ f.Nodup /\ Ext w w' := by
  obtain ⟨a0, a1p, a1n, a1c, a1z, rfl, rfl, ha⟩ := open_Signed h hc
  have l1 := ha.1
  simp only [bulks, D0.bulk, List.map_cons, List.map_nil, List.sum_cons, List.sum_nil] at hb
  refine impl_intCopy_ret ?_
  unfold impl_intCopy
  intro r w1 hn1 r1 w2 hn2
  have D := Ext.drew w2
  have X := (hn1.ext.trans hn2.ext).trans D
  have k0 := hn1.blk.ext hn2.ext; have k1 := hn2.blk.ext D
  have e2 := hn2.r_eq; have s1 := hn1.size; have s2 := hn2.size; have lD := D.le
  refine ⟨_, fun W hW => (k0.ext (D.trans hW)).loadAt 0 rfl (by kernel_rfl) rfl, _, _, _, fun W hW => (k0.ext (D.trans hW)).loadAt 1 rfl (by kernel_rfl) rfl, ?_⟩
  refine Ret.at (impl_natCopy_c (ha.ext X) (by omega)) ?_
  rintro v w3 ⟨p, c, hv, ho, y3⟩
  subst hv
  obtain ⟨w4, st, hb4, ch, sz⟩ := (k1.ext y3).storeA0 (P := P) (t := T_impl_Signed) (xs := [.bool a0, .slice p a1n c]) (by kernel_rfl) rfl (by simp [Value.oneCell'])
  exact ⟨_, _, _, rfl, y3, w4, st, _, _, _, _, hb4.loadA0 (by kernel_rfl), _, _, rfl, ((Owns.int2 ho).chg1 ch (by omega)).mono (by omega), nodup_opt p, (X.trans y3).chg ch (by simp; omega)⟩
end Go.Proofs.YtbgokfhcgcoipaaGreatDoor
namespace Go.Proofs.YtbgokfhcgcoipaaGreatDoor
open Go Go.Proofs.YtbgokfhcgcoipaaGreatDoor.Sx
def ratNum : List D0 -> Int
  | [.bool s, .ints x, .ints _] => ival [.bool s, .ints x]
  | _ => 0
def ratDen : List D0 -> Nat
  | [.bool _, .ints _, .ints y] => (val y).toNat
  | _ => 0
def rmk (n : Int) (d : Nat) : List D0 := [.bool (decide (n < 0)), .ints (digs n.natAbs), .ints (digs d)]
theorem rmk_enc (n : Int) (d : Nat) : rmk n d = enc n ++ [.ints (digs d)] := rfl
theorem rmk_code (n : Int) (d : Nat) : (rmk n d).map D0.code = [.bool, .ints, .ints] := rfl
theorem ratNum_rmk (n : Int) (d : Nat) : ratNum (rmk n d) = n := ival_enc n
theorem ratDen_rmk (n : Int) (d : Nat) : ratDen (rmk n d) = d := by simp [ratDen, rmk, val_digs]
theorem ival_natAbs {s : Bool} {x : List Int} (h : Limbs x) : (ival [.bool s, .ints x]).natAbs = (val x).toNat := by
  have := val_nonneg h
  unfold ival
  cases s <;> simp <;> omega
theorem ratOk_enc {dx : List D0} (h : ratOk dx = true) : dx = rmk (ratNum dx) (ratDen dx) /\ 0 < ratDen dx /\ Nat.gcd (ratNum dx).natAbs (ratDen dx) = 1 /\ (digs (ratNum dx).natAbs).length <= 18 /\ (digs (ratDen dx)).length <= 18 := by
  match dx, h with
  | [.bool s, .ints x, .ints y], h =>
    simp only [ratOk, Bool.and_eq_true, decide_eq_true_eq, Bool.not_eq_true'] at h
    obtain ⟨⟨⟨⟨⟨h1, h2⟩, h3⟩, h4⟩, h5⟩, h6⟩ := h
    have e1 := (intOk_enc h1).1
    obtain ⟨b', z', ez, can1, _⟩ := (intOk_enc h1).2
    simp only [List.cons.injEq, D0.ints.injEq, D0.bool.injEq, and_true] at ez
    obtain ⟨_, rfl⟩ := ez
    have can2 := (natOk_spec.1 h2).1
    have na := ival_natAbs (s := s) can1.1
    have ey := digs_val can2
    have hp := canon_pos can2 (by intro e; subst e; simp at h3)
    have ex := digs_val can1
    refine ⟨?_, ?_, ?_, ?_, ?_⟩
    · have e1' : [D0.bool s, .ints x] = enc (ratNum [.bool s, .ints x, .ints y]) := e1
      have ey' : digs (ratDen [.bool s, .ints x, .ints y]) = y := ey
      rw [rmk_enc, <- e1', ey']; rfl
    · simp only [ratDen]; omega
    · simp only [ratNum, ratDen, na]; exact h6
    · simp only [ratNum, na, ex]; exact h5
    · simp only [ratDen, ey]; exact h4
theorem ratOk_rmk {n : Int} {d : Nat} (hd : 0 < d) (hg : Nat.gcd n.natAbs d = 1) (h1 : (digs n.natAbs).length <= 18) (h2 : (digs d).length <= 18) : ratOk (rmk n d) = true := by
  have i1 : intOk [.bool (decide (n < 0)), .ints (digs n.natAbs)] = true := by
    have := icap_ok n
    rwa [icap_fit (by omega)] at this
  have i2 : natOk (digs d) = true := natOk_spec.2 ⟨digs_canon d, by omega⟩
  have i3 : (digs d).isEmpty = false := by rw [isEmpty_digs]; simp; omega
  simp only [ratOk, rmk, i1, i2, i3, decide_eq_true h1, decide_eq_true h2, val_digs, Int.toNat_natCast, Bool.not_false, Bool.and_self, Bool.true_and]
  exact decide_eq_true hg
def rsign (dx : List D0) : Int := if ratOk dx then sgn (ratNum dx) else 0
theorem rat_parts {w : World} {vs : List Value} {dx : List D0} (h : Reps w vs dx) (hc : dx.map D0.code = [.bool, .ints, .ints]) (hok : ratOk dx = true) :
    ∃ p1 n1 c1 p2 n2 c2, vs = [.bool (decide (ratNum dx < 0)), .slice p1 n1 c1, .slice p2 n2 c2] /\ IntsR w p1 n1 c1 (digs (ratNum dx).natAbs) /\ IntsR w p2 n2 c2 (digs (ratDen dx)) /\ n1 <= 18 /\ n2 <= 18 /\ Reps w [.bool (decide (ratNum dx < 0)), .slice p1 n1 c1] (enc (ratNum dx)) := by
  obtain ⟨e, h1, h2, h3, h4⟩ := ratOk_enc hok
  obtain ⟨a0, a1p, a1n, a1c, a1z, a2p, a2n, a2c, a2z, rfl, hd, ir1, ir2⟩ := open_Rat h hc
  rw [hd] at e
  simp only [rmk, List.cons.injEq, D0.ints.injEq, D0.bool.injEq, and_true] at e
  rw [<- hd] at e
  obtain ⟨e0, e1, e2⟩ := e
  rw [e1] at ir1
  rw [e2] at ir2
  have l1 := ir1.1; have l2 := ir2.1
  exact ⟨_, _, _, _, _, _, by rw [e0], ir1, ir2, by omega, by omega, rfl, ⟨_, _, _, rfl, ir1⟩, trivial⟩
theorem impl_RatSign_c {w : World} {xs : List Value} {dx : List D0} (h : Reps w xs dx) (hc : dx.map D0.code = [.bool, .ints, .ints]) :
    Ret P n_impl_RatSign [.agg ⟨xs⟩] w fun v w' => v = .int .i64 (rsign dx) /\ Ext w w' := by
  have hr := h; have hcc := hc
  obtain ⟨a0, a1p, a1n, a1c, a1z, a2p, a2n, a2c, a2z, rfl, rfl, ir1, ir2⟩ := open_Rat h hc
  refine impl_RatSign_ret ?_
  unfold impl_RatSign
  intro r w1 hn1
  refine ⟨_, _, _, _, _, _, _, hn1.blk.loadA0 (by kernel_rfl), ?_⟩
  refine Ret.at (impl_RatOk_c (hr.ext hn1.ext) rfl) ?_
  rintro v w2 ⟨hv, y2⟩
  subst hv
  have X2 := hn1.ext.trans y2
  refine ⟨_, rfl, ifN (fun e => ⟨by simp [rsign, e], X2⟩) (fun e => ?_)⟩
  obtain ⟨p1, n1, c1, p2, n2, c2, ev, i1, i2, _, _, he⟩ := rat_parts hr hcc e
  simp only [List.cons.injEq, Value.slice.injEq, Value.bool.injEq, and_true] at ev
  obtain ⟨e0, ⟨rfl, rfl, rfl⟩, rfl, rfl, rfl⟩ := ev
  rw [<- e0] at he
  refine ⟨_, _, _, _, (hn1.blk.ext y2).loadAAt 0 [.bool a0, .slice a1p a1n a1c] rfl (by kernel_rfl) rfl, ?_⟩
  refine Ret.at (impl_intSign_c (he.ext X2)) ?_
  rintro v w3 ⟨hv, y3⟩
  subst hv
  exact ⟨_, rfl, by rw [rsign, if_pos e], X2.trans y3⟩
theorem prod_len {x y : Nat} {i j : Nat} (hx : (digs x).length <= i) (hy : (digs y).length <= j) : (digs (x * y)).length <= i + j := by
  apply digs_len
  have h1 := val_lt (digs_limbs x); have h2 := val_lt (digs_limbs y)
  rw [val_digs] at h1 h2
  have h1' : x < 1000000000 ^ i := by
    have : ((x : Nat) : Int) < ((1000000000 ^ (digs x).length : Nat) : Int) := by simpa using h1
    exact Nat.lt_of_lt_of_le (Int.ofNat_lt.1 this) (Nat.pow_le_pow_right (by decide) hx)
  have h2' : y < 1000000000 ^ j := by
    have : ((y : Nat) : Int) < ((1000000000 ^ (digs y).length : Nat) : Int) := by simpa using h2
    exact Nat.lt_of_lt_of_le (Int.ofNat_lt.1 this) (Nat.pow_le_pow_right (by decide) hy)
  rw [Nat.pow_add]
  exact Nat.mul_lt_mul'' h1' h2'
end Go.Proofs.YtbgokfhcgcoipaaGreatDoor
namespace Go.Proofs.YtbgokfhcgcoipaaGreatDoor
open Go Go.Proofs.YtbgokfhcgcoipaaGreatDoor.Sx
def rat0 : List D0 := [.bool false, .ints [], .ints []]
def redN (n : Int) (d : Nat) : Int := if n < 0 then -((n.natAbs / Nat.gcd n.natAbs d : Nat) : Int) else ((n.natAbs / Nat.gcd n.natAbs d : Nat) : Int)
def redD (n : Int) (d : Nat) : Nat := d / Nat.gcd n.natAbs d
def redOk (n : Int) (d : Nat) : Bool := decide ((digs (n.natAbs / Nat.gcd n.natAbs d)).length <= 18) && decide ((digs (d / Nat.gcd n.natAbs d)).length <= 18)
def redR (n : Int) (d : Nat) : List D0 := if redOk n d then rmk (redN n d) (redD n d) else rat0
theorem redR_code (n : Int) (d : Nat) : (redR n d).map D0.code = [.bool, .ints, .ints] := by unfold redR; split <;> rfl
theorem redN_abs (n : Int) (d : Nat) : (redN n d).natAbs = n.natAbs / Nat.gcd n.natAbs d := by
  unfold redN
  generalize n.natAbs / Nat.gcd n.natAbs d = q
  split <;> omega
theorem enc_redN (n : Int) (d : Nat) : enc (redN n d) = mkS (decide (n < 0)) (digs (n.natAbs / Nat.gcd n.natAbs d)) := by
  unfold redN
  by_cases h : n < 0
  · rw [if_pos h, decide_eq_true h, mkS_neg]
  · rw [if_neg h, decide_eq_false h, mkS_pos]
theorem gcd_pos_right {m d : Nat} (hd : 0 < d) : 0 < Nat.gcd m d := Nat.gcd_pos_of_pos_right m hd
theorem redD_pos {n : Int} {d : Nat} (hd : 0 < d) : 0 < redD n d := Nat.div_pos (Nat.le_of_dvd hd (Nat.gcd_dvd_right _ _)) (gcd_pos_right hd)
theorem red_coprime {n : Int} {d : Nat} (hd : 0 < d) : Nat.gcd (redN n d).natAbs (redD n d) = 1 := by
  rw [redN_abs, redD, Nat.gcd_div (Nat.gcd_dvd_left _ _) (Nat.gcd_dvd_right _ _)]
  exact Nat.div_self (gcd_pos_right hd)
theorem redR_ok {n : Int} {d : Nat} (hd : 0 < d) (h : redOk n d = true) : ratOk (redR n d) = true := by
  have h' := h
  simp only [redOk, Bool.and_eq_true, decide_eq_true_eq] at h'
  rw [redR, if_pos h]
  exact ratOk_rmk (redD_pos hd) (red_coprime hd) (by rw [redN_abs]; exact h'.1) h'.2
theorem redOk_small {n : Int} {d : Nat} (h1 : (digs n.natAbs).length <= 18) (h2 : (digs d).length <= 18) : redOk n d = true := by
  simp only [redOk, Bool.and_eq_true, decide_eq_true_eq]
  exact ⟨Nat.le_trans (digs_mono_len (Nat.div_le_self _ _)) h1, Nat.le_trans (digs_mono_len (Nat.div_le_self _ _)) h2⟩
theorem redR_small {n : Int} {d : Nat} (h1 : (digs n.natAbs).length <= 18) (h2 : (digs d).length <= 18) : redR n d = rmk (redN n d) (redD n d) := by rw [redR, if_pos (redOk_small h1 h2)]
theorem redN_len {n : Int} {d : Nat} : (digs (redN n d).natAbs).length <= (digs n.natAbs).length := by rw [redN_abs]; exact digs_mono_len (Nat.div_le_self _ _)
theorem redD_len {n : Int} {d : Nat} : (digs (redD n d)).length <= (digs d).length := digs_mono_len (Nat.div_le_self _ _)
def modeAway (m : Int) (neg : Bool) (half : Int) (odd : Bool) : Bool :=
 if m = 0 then false else if m = 1 then true else if m = 2 then neg else if m = 3 then !neg else if m = 4 then decide (0 < half) else if m = 5 then decide (0 <= half) else decide (0 < half) || (decide (half = 0) && odd)
def roundM (n : Int) (d : Nat) (m : Int) : Nat :=
 if n.natAbs % d ≠ 0 /\ modeAway m (decide (n < 0)) (cmpL (digs (n.natAbs % d + n.natAbs % d)) (digs d)) (decide (n.natAbs / d % 2 = 1)) = true then n.natAbs / d + 1 else n.natAbs / d
def rround (n : Int) (d : Nat) (m : Int) : Int := if n < 0 then -((roundM n d m : Nat) : Int) else ((roundM n d m : Nat) : Int)
theorem rround_abs (n : Int) (d : Nat) (m : Int) : (rround n d m).natAbs = roundM n d m := by unfold rround; split <;> omega
theorem roundM_le (n : Int) (d : Nat) (m : Int) : roundM n d m <= n.natAbs / d + 1 := by unfold roundM; split <;> omega
theorem even_head {q : Nat} : (digs q).length = 0 ∨ (digs q).getD 0 0 % 2 = 0 ↔ q % 2 = 0 := by
  rcases Nat.eq_zero_or_pos q with h | h
  · subst h; rw [digs_zero]; simp
  · rw [digs_pos (by omega)]
    simp
    omega
end Go.Proofs.YtbgokfhcgcoipaaGreatDoor
namespace Go.Proofs.YtbgokfhcgcoipaaGreatDoor
def lowS (m s : Nat) : Nat := ((List.range (s + 1)).find? fun t => decide (m % 10 ^ (s - t) = 0)).getD s
theorem lowS_eq {m s t : Nat} (ht : t <= s) (hd : m % 10 ^ (s - t) = 0) (hm : ∀ u < t, m % 10 ^ (s - u) ≠ 0) : lowS m s = t := by
  have : (List.range (s + 1)).find? (fun t => decide (m % 10 ^ (s - t) = 0)) = some t := by
    rw [List.find?_range_eq_some]
    exact ⟨by simpa using hd, by simp; omega, fun j hj => by simpa using hm j hj⟩
  rw [lowS, this]; rfl
def lowM (m s : Nat) : Nat := m / 10 ^ (s - lowS m s)
theorem lowM_le (m s : Nat) : lowM m s <= m := Nat.div_le_self _ _
end Go.Proofs.YtbgokfhcgcoipaaGreatDoor
namespace Go.Proofs.YtbgokfhcgcoipaaGreatDoor
open Go Go.Proofs.YtbgokfhcgcoipaaGreatDoor.Sx
theorem enc_nat (n : Nat) : enc (n : Int) = [.bool false, .ints (digs n)] := (mkS_pos n).symm
theorem enc_ok {z : Int} (h : (digs z.natAbs).length <= 50) : intOk (enc z) = true := by rw [<- icap_fit h]; exact icap_ok z
theorem ten_len {k : Nat} (h : k <= 30) : (digs (10 ^ k)).length <= 4 := by
  apply digs_len
  have : (10 : Nat) ^ k <= 10 ^ 30 := Nat.pow_le_pow_right (by decide) h
  exact Nat.lt_of_le_of_lt this (by decide)
end Go.Proofs.YtbgokfhcgcoipaaGreatDoor
namespace Go.Proofs.YtbgokfhcgcoipaaGreatDoor
open Go Go.Proofs.YtbgokfhcgcoipaaGreatDoor.Sx
def dnn (m : Nat) (s : Int) : List D0 := [.bool false, .ints (digs m), .int s]
theorem inn_ok {m : Nat} (h : (digs m).length <= 50) : intOk [.bool false, .ints (digs m)] = true := by
  simp only [intOk, natOk_spec.2 ⟨digs_canon m, h⟩, Bool.not_false, Bool.true_or, Bool.and_self]
theorem dnn_ok {m : Nat} {s : Int} (h : (digs m).length <= 6) (hs : 0 <= s /\ s <= 30) : decOk (dnn m s) = true := by
  simp only [decOk, dnn, inn_ok (show (digs m).length <= 50 by omega), decide_eq_true h, decide_eq_true hs, Bool.and_self]
theorem impl_decOf_c {w : World} {B : Nat} {xs : List Value} {m : Nat} {s : Int} {f : List Nat} (h : Owns w B xs [.bool false, .ints (digs m)] f) (hm : (digs m).length <= 6) (hs : 0 <= s /\ s <= 30) :
    Ret P n_impl_decOf [.agg ⟨xs⟩, .int .i64 s] w fun v w' => ∃ vs, v = .tuple #[.agg ⟨vs⟩, .bool true] /\ Owns w' B vs (dnn m s) f /\ Ext w w' := by
  have ho := h
  obtain ⟨a0, ap, an, ac, az, rfl, hd, ha⟩ := open_Signed h.reps rfl
  simp only [List.cons.injEq, D0.bool.injEq, D0.ints.injEq, and_true] at hd
  obtain ⟨rfl, rfl⟩ := hd
  refine impl_decOf_ret ?_
  unfold impl_decOf
  intro r w1 hn1 r1 w2 hn2
  have k1 := hn1.blk.ext hn2.ext
  refine ⟨_, _, _, _, k1.loadA0 (by kernel_rfl), ?_⟩
  intro r2 w3 hn3
  have e1 := hn1.r_eq; have e2 := hn2.r_eq; have z1 := hn1.size
  obtain ⟨w4, st4, hb4, y4⟩ := hn3.fill (P := P) (t := T_impl_Dec) (xs := [.bool false, .slice ap an ac, .int .i64 s]) (by simp [Value.oneCell']) (by kernel_rfl) rfl
  have X := (hn1.ext.trans hn2.ext).trans y4
  refine ⟨w4, st4, _, _, _, _, _, hb4.loadA0 (by kernel_rfl), ?_⟩
  have hm' : Reps w4 [.bool false, .slice ap an ac, .int .i64 s] (dnn m s) := ⟨rfl, ⟨_, _, _, rfl, ha.ext X⟩, rfl, trivial⟩
  refine Ret.at (impl_DecOk_c hm' rfl) ?_
  rintro v w5 ⟨hv, y5⟩
  subst hv
  rw [dnn_ok hm hs]
  obtain ⟨w6, st6, hb6, ch, sz⟩ := ((hn2.blk.ext y4).ext y5).storeA0 (P := P) (t := T_impl_Dec) (xs := [.bool false, .slice ap an ac, .int .i64 s]) (by kernel_rfl) rfl (by simp [Value.oneCell'])
  have Z : Ext w w6 := (X.trans y5).chg ch (by simp; omega)
  have ho6 : Owns w6 B [.bool false, .slice ap an ac, .int .i64 s] (dnn m s) f := by
    have := Owns.append (ho.ext Z) (Owns.int w6 B s)
    rwa [List.append_nil] at this
  exact ⟨_, rfl, ifT ⟨_, _, _, _, _, (hb4.ext y5).loadA0 (by kernel_rfl), w6, st6, _, _, _, _, _, hb6.loadA0 (by kernel_rfl), [.bool false, .slice ap an ac, .int .i64 s], rfl, ho6, Z⟩⟩
theorem own_out {w : World} {B : Nat} {e : TypeId} {size : Nat} {p : Option Addr} {n c : Nat} {xs : List Value} (h : Own w B e size p n c xs) : ∀ b, p.map (·.block) = some b -> B <= b := fun b hb =>
  (World.ownsRow.lt h b (by cases p <;> simp_all [Value.ownBlock])).1
theorem impl_intMul_n {w : World} {xs ys : List Value} {m k : Nat} (h : Reps w xs [.bool false, .ints (digs m)]) (g : Reps w ys [.bool false, .ints (digs k)]) (hm : (digs m).length <= 50) (hk : (digs k).length <= 50) :
    Ret P n_impl_intMul [.agg ⟨xs⟩, .agg ⟨ys⟩] w fun v w' => ∃ vs f, v = .agg ⟨vs⟩ /\ Owns w' w.heap.size vs [.bool false, .ints (digs (m * k))] f /\ Ext w w' := by
  obtain ⟨a0, ap, an, ac, az, rfl, hd, ha⟩ := open_Signed h rfl
  simp only [List.cons.injEq, D0.bool.injEq, D0.ints.injEq, and_true] at hd
  obtain ⟨rfl, rfl⟩ := hd
  obtain ⟨b0, bp, bn, bc, bz, rfl, hd, hb⟩ := open_Signed g rfl
  simp only [List.cons.injEq, D0.bool.injEq, D0.ints.injEq, and_true] at hd
  obtain ⟨rfl, rfl⟩ := hd
  have la := ha.1; have lb := hb.1
  refine impl_intMul_ret ?_
  unfold impl_intMul
  intro r w1 hn1 r1 w2 hn2 r2 w3 hn3
  have e1 := hn1.r_eq; have e2 := hn2.r_eq; have e3 := hn3.r_eq; have z1 := hn1.size; have z2 := hn2.size; have z3 := hn3.size
  have D := Ext.drew w3
  have X := ((hn1.ext.trans hn2.ext).trans hn3.ext).trans D
  have q0 := ((hn1.blk.ext hn2.ext).ext hn3.ext).ext D
  have q1 := (hn2.blk.ext hn3.ext).ext D
  have q2 := hn3.blk.ext D
  have lD := D.le
  refine ⟨_, fun W hW => (q0.ext hW).loadAt 0 rfl (by kernel_rfl) rfl, _, fun W hW => (q1.ext hW).loadAt 0 rfl (by kernel_rfl) rfl, _, _, _, fun W hW => (q0.ext hW).loadAt 1 rfl (by kernel_rfl) rfl, _, _, _, fun W hW => (q1.ext hW).loadAt 1 rfl (by kernel_rfl) rfl, ?_⟩
  refine Ret.at (impl_natMul_c (ha.ext X) (hb.ext X) (digs_limbs m) (digs_limbs k) (by omega) (by omega)) ?_
  rintro v w4 ⟨p', n', c', hv, ho, y4⟩
  subst hv
  have e : (val (digs m) * val (digs k)).toNat = m * k := by rw [val_digs, val_digs, <- Int.natCast_mul, Int.toNat_natCast]
  rw [e] at ho
  refine ⟨_, _, _, rfl, y4, ?_⟩
  refine Ret.at (impl_signed_c (neg := !(false == false)) ho.ints.1) ?_
  rintro v w5 ⟨hv, y5⟩
  subst hv
  obtain ⟨w6, st6, hb6, ch, sz⟩ := ((q2.ext y4).ext y5).storeA0 (P := P) (t := T_impl_Signed) (xs := [.bool ((!(false == false)) && !(digs (m * k)).isEmpty), .slice p' n' c']) (by kernel_rfl) rfl (by simp [Value.oneCell'])
  have Z : Ext w w6 := ((X.trans y4).trans y5).chg ch (by simp; omega)
  have ho6 := (ho.ext y5).chg ch (fun b hb' hm' => by
    have := own_out ho b hb'
    simp at hm'; omega)
  exact ⟨_, _, _, _, rfl, w6, st6, _, _, _, _, hb6.loadA0 (by kernel_rfl), [.bool ((!(false == false)) && !(digs (m * k)).isEmpty), .slice p' n' c'], _, rfl, Owns.int2 (b := false) (ho6.mono (by omega)), Z⟩
theorem impl_DecMul_n {w : World} {xs ys : List Value} {m k : Nat} {s t : Int} (h : Reps w xs (dnn m s)) (g : Reps w ys (dnn k t)) (hm : (digs m).length <= 6) (hk : (digs k).length <= 6) (hs : 0 <= s /\ s <= 30) (ht : 0 <= t /\ t <= 30) (hmk : (digs (m * k)).length <= 6) (hst : s + t <= 30) :
    Ret P n_impl_DecMul [.agg ⟨xs⟩, .agg ⟨ys⟩] w fun v w' => ∃ vs f, v = .tuple #[.agg ⟨vs⟩, .bool true] /\ Owns w' w.heap.size vs (dnn (m * k) (s + t)) f /\ Ext w w' := by
  have hr := h; have gr := g
  obtain ⟨a0, ap, an, ac, az, a2, rfl, hd, ha⟩ := open_Dec h rfl
  simp only [dnn, List.cons.injEq, D0.bool.injEq, D0.ints.injEq, D0.int.injEq, and_true] at hd
  obtain ⟨rfl, rfl, rfl⟩ := hd
  obtain ⟨b0, bp, bn, bc, bz, b2, rfl, hd, hb⟩ := open_Dec g rfl
  simp only [dnn, List.cons.injEq, D0.bool.injEq, D0.ints.injEq, D0.int.injEq, and_true] at hd
  obtain ⟨rfl, rfl, rfl⟩ := hd
  refine impl_DecMul_ret ?_
  unfold impl_DecMul
  intro r w1 hn1 r1 w2 hn2 r2 w3 hn3
  have e1 := hn1.r_eq; have e2 := hn2.r_eq; have e3 := hn3.r_eq; have z1 := hn1.size; have z2 := hn2.size; have z3 := hn3.size
  have X := (hn1.ext.trans hn2.ext).trans hn3.ext
  have q0 := (hn1.blk.ext hn2.ext).ext hn3.ext
  have q1 := hn2.blk.ext hn3.ext
  refine ⟨_, _, _, _, _, q0.loadA0 (by kernel_rfl), ?_⟩
  refine Ret.at (impl_DecOk_c (hr.ext X) rfl) ?_
  rintro v w4 ⟨hv, y4⟩
  subst hv
  rw [dnn_ok hm hs]
  refine ⟨_, rfl, ifN (fun hh => absurd hh (by simp)) (fun _ => ⟨_, _, _, _, _, (q1.ext y4).loadA0 (by kernel_rfl), ?_⟩)⟩
  refine Ret.at (impl_DecOk_c (gr.ext (X.trans y4)) rfl) ?_
  rintro v w5 ⟨hv, y5⟩
  subst hv
  rw [dnn_ok hk ht]
  refine ⟨_, rfl, ifN (fun hh => absurd hh (by simp)) (fun _ => ?_)⟩
  unfold impl_DecMul_j0
  have D := Ext.drew w5
  have Y := (y4.trans y5).trans D
  have X5 := X.trans Y
  have lY := Y.le
  have q0 := q0.ext Y; have q1 := q1.ext Y; have q2 := hn3.blk.ext Y
  refine ⟨_, _, _, _, fun W hW => (q0.ext hW).loadAAt 0 [.bool false, .slice ap an ac] rfl (by kernel_rfl) rfl, _, _, _, _, fun W hW => (q1.ext hW).loadAAt 0 [.bool false, .slice bp bn bc] rfl (by kernel_rfl) rfl, ?_⟩
  have h1 : Reps w5.drew [.bool false, .slice ap an ac] [.bool false, .ints (digs m)] := ⟨rfl, ⟨_, _, _, rfl, ha.ext X5⟩, trivial⟩
  have h2 : Reps w5.drew [.bool false, .slice bp bn bc] [.bool false, .ints (digs k)] := ⟨rfl, ⟨_, _, _, rfl, hb.ext X5⟩, trivial⟩
  refine Ret.at (impl_intMul_n h1 h2 (by omega) (by omega)) ?_
  rintro v w6 ⟨vs6, f6, hv, ho6, y6⟩
  subst hv
  have hp6 := ho6.reps
  obtain ⟨c0, cp, cn, cc, cz, rfl, _, _⟩ := open_Signed hp6 rfl
  refine ⟨_, _, _, _, rfl, y6, _, fun W hW => (q0.ext hW).loadAt 2 rfl (by kernel_rfl) rfl, _, fun W hW => (q1.ext hW).loadAt 2 rfl (by kernel_rfl) rfl, exW ⟨by omega, by omega⟩ ?_⟩
  refine Ret.at (impl_decOf_c ho6 hmk ⟨by omega, by omega⟩) ?_
  rintro v w7 ⟨vs7, hv, ho7, y7⟩
  subst hv
  have hp7 := ho7.reps
  obtain ⟨d0, dp, dn, dc, dz, ds, rfl, _, _⟩ := open_Dec hp7 rfl
  obtain ⟨w8, st8, hb8, ch, sz⟩ := ((q2.ext y6).ext y7).storeA0 (P := P) (t := T_impl_Dec) (xs := [.bool d0, .slice dp dn dc, .int .i64 ds]) (by kernel_rfl) rfl (by simp [Value.oneCell'])
  have Z : Ext w w8 := ((X5.trans y6).trans y7).chg ch (by simp; omega)
  exact ⟨_, _, _, _, _, _, rfl, w8, st8, _, _, _, _, _, hb8.loadA0 (by kernel_rfl), [.bool d0, .slice dp dn dc, .int .i64 ds], _, rfl, (ho7.chg1 ch (by omega)).mono (by omega), Z⟩
end Go.Proofs.YtbgokfhcgcoipaaGreatDoor
namespace Go.Proofs.YtbgokfhcgcoipaaGreatDoor
open Go Go.Proofs.YtbgokfhcgcoipaaGreatDoor.Sx
theorem IntsR.store3 {w w' : World} {r : Nat} {e : TypeId} {p : Option Addr} {n c m : Nat} (hb : Blk w r e [.bool false, .slice none 0 0, .int .i64 0]) (h : IntsR w p n c (digs m)) (ch : Chg [r] w w') : IntsR w' p n c (digs m) := by
  refine ⟨h.1, h.2.1, h.2.2.1, fun hn => ?_⟩
  obtain ⟨b, off, hp, hs⟩ := h.2.2.2 hn
  refine ⟨b, off, hp, hs.chg ch ?_⟩
  intro hm
  simp at hm
  subst hm
  have hl := h.1
  have hx := digs_last m
  rw [List.getLast?_eq_getElem?, hl] at hx
  have hlt : n - 1 < (digs m).length := by omega
  rw [List.getElem?_eq_getElem hlt] at hx
  have h1 := hs (n - 1) (.int .i64 ((digs m)[n - 1]'hlt)) (by simp [List.getElem?_eq_getElem hlt])
  rw [hb.cell] at h1
  generalize off + (n - 1) = i at h1
  match i, h1 with
  | 0, h1 => simp at h1
  | 1, h1 => simp at h1
  | 2, h1 =>
    simp at h1
    exact hx (by rw [<- h1])
  | i + 3, h1 => simp at h1
theorem digs_pos_len {m : Nat} : 0 < (digs m).length ↔ m ≠ 0 := by
  constructor
  · intro h e
    rw [e, digs_zero] at h
    simp at h
  · intro h
    rw [digs_pos h]
    simp
theorem digs_div_len {m k : Nat} (h : (digs m).length <= 6) : (digs (m / k)).length <= 6 := Nat.le_trans (digs_mono_len (Nat.div_le_self m k)) h
theorem val_div (m k : Nat) : (val (digs m) / val (digs k)).toNat = m / k := by rw [val_digs, val_digs]; exact ediv_toNat m k
theorem val_mod (m k : Nat) : (val (digs m) % val (digs k)).toNat = m % k := by rw [val_digs, val_digs]; exact emod_toNat m k
theorem impl_decOf_r {w : World} {xs : List Value} {m : Nat} {s : Int} (h : Reps w xs [.bool false, .ints (digs m)]) (hm : (digs m).length <= 6) (hs : 0 <= s /\ s <= 30) :
    Ret P n_impl_decOf [.agg ⟨xs⟩, .int .i64 s] w fun v w' => ∃ vs, v = .tuple #[.agg ⟨vs⟩, .bool true] /\ Reps w' vs (dnn m s) /\ Ext w w' := by
  obtain ⟨a0, ap, an, ac, az, rfl, hd, ha⟩ := open_Signed h rfl
  simp only [List.cons.injEq, D0.bool.injEq, D0.ints.injEq, and_true] at hd
  obtain ⟨rfl, rfl⟩ := hd
  refine impl_decOf_ret ?_
  unfold impl_decOf
  intro r w1 hn1 r1 w2 hn2
  have k1 := hn1.blk.ext hn2.ext
  refine ⟨_, _, _, _, k1.loadA0 (by kernel_rfl), ?_⟩
  intro r2 w3 hn3
  have e1 := hn1.r_eq; have e2 := hn2.r_eq; have z1 := hn1.size
  obtain ⟨w4, st4, hb4, y4⟩ := hn3.fill (P := P) (t := T_impl_Dec) (xs := [.bool false, .slice ap an ac, .int .i64 s]) (by simp [Value.oneCell']) (by kernel_rfl) rfl
  have X := (hn1.ext.trans hn2.ext).trans y4
  refine ⟨w4, st4, _, _, _, _, _, hb4.loadA0 (by kernel_rfl), ?_⟩
  have hm' : Reps w4 [.bool false, .slice ap an ac, .int .i64 s] (dnn m s) := ⟨rfl, ⟨_, _, _, rfl, ha.ext X⟩, rfl, trivial⟩
  refine Ret.at (impl_DecOk_c hm' rfl) ?_
  rintro v w5 ⟨hv, y5⟩
  subst hv
  rw [dnn_ok hm hs]
  obtain ⟨w6, st6, hb6, ch, sz⟩ := ((hn2.blk.ext y4).ext y5).storeA0 (P := P) (t := T_impl_Dec) (xs := [.bool false, .slice ap an ac, .int .i64 s]) (by kernel_rfl) rfl (by simp [Value.oneCell'])
  have Z : Ext w w6 := (X.trans y5).chg ch (by simp; omega)
  exact ⟨_, rfl, ifT ⟨_, _, _, _, _, (hb4.ext y5).loadA0 (by kernel_rfl), w6, st6, _, _, _, _, _, hb6.loadA0 (by kernel_rfl), [.bool false, .slice ap an ac, .int .i64 s], rfl, ⟨rfl, ⟨_, _, _, rfl, ha.ext Z⟩, rfl, trivial⟩, Z⟩⟩
theorem impl_DecAt_n {w : World} {xs : List Value} {m s t : Nat} (h : Reps w xs (dnn m s)) (hm : (digs m).length <= 6) (hs : s <= 30) (ht : t <= s) :
    Ret P n_impl_DecAt [.agg ⟨xs⟩, .int .i64 (t : Int)] w fun v w' => ∃ vs d, v = .tuple #[.agg ⟨vs⟩, .bool (decide (m % 10 ^ (s - t) = 0))] /\ Reps w' vs d /\ d.map D0.code = [.bool, .ints, .int] /\ (m % 10 ^ (s - t) = 0 -> d = dnn (m / 10 ^ (s - t)) t) /\ Ext w w' := by
  have hr := h
  obtain ⟨a0, ap, an, ac, az, a2, rfl, hd, ha⟩ := open_Dec h rfl
  simp only [dnn, List.cons.injEq, D0.bool.injEq, D0.ints.injEq, D0.int.injEq, and_true] at hd
  obtain ⟨rfl, rfl, rfl⟩ := hd
  have hla := ha.1
  refine impl_DecAt_ret ?_
  unfold impl_DecAt
  intro r w1 hn1 r1 w2 hn2
  have e1 := hn1.r_eq; have e2 := hn2.r_eq; have z1 := hn1.size; have z2 := hn2.size
  have X := hn1.ext.trans hn2.ext
  have q0 := hn1.blk.ext hn2.ext
  refine ⟨_, _, _, _, _, q0.loadA0 (by kernel_rfl), ?_⟩
  refine Ret.at (impl_DecOk_c (hr.ext X) rfl) ?_
  rintro v w3 ⟨hv, y3⟩
  subst hv
  rw [dnn_ok hm ⟨by omega, by omega⟩]
  refine ⟨_, rfl, ifN (fun hh => absurd hh (by simp)) (fun _ => ?_)⟩
  refine Ret.at (impl_isScale_c (t : Int) _) ?_
  rintro v w4 ⟨hv, hw⟩
  subst hv; subst hw
  rw [decide_eq_true (show (0 : Int) <= (t : Int) /\ (t : Int) <= 30 by omega)]
  refine ⟨_, rfl, ifN (fun hh => absurd hh (by simp)) (fun _ => ?_)⟩
  unfold impl_DecAt_j0
  have q0 := q0.ext y3; have q1 := hn2.blk.ext y3
  have X3 := X.trans y3
  have l3 := y3.le
  refine ⟨_, q0.loadAt 2 rfl (by kernel_rfl) rfl, ifD (fun hle => ?_) (fun hgt => ?_)⟩
  · have hst : t = s := by omega
    subst hst
    have D := Ext.drew w4
    have X4 := X3.trans D
    have lD := D.le
    have k0 := q0.ext D; have k1 := q1.ext D
    refine Ret.at (R := fun v w' => ∃ r, v = .func (.func n_impl_scaled_1) ⟨[]⟩ ⟨[.pointer (some ⟨r, 0, none⟩)]⟩ /\ Blk w' r T_int [.int .i64 (t : Int)] /\ Ext w4.drew w') ?_ ?_
    · refine impl_scaled_ret ?_
      unfold impl_scaled
      intro r5 w5 hn5
      exact ⟨r5, rfl, hn5.blk, hn5.ext⟩
    rintro v w5 ⟨r5, hv, hb5, y5⟩
    subst hv
    refine ⟨_, rfl, y5, _, _, _, _, _, fun W hW => (k0.ext hW).loadA0 (by kernel_rfl), _, _, _, rfl, by kernel_rfl, ?_⟩
    refine Calls.mono (impl_scaled_1_c (hr.ext (X4.trans y5)) (digs_limbs m) (by omega) (by omega) (by omega) (by omega) hb5) ?_
    rintro e w6 ⟨v, he, vs1, f1, hv, ho1, _, y6⟩
    subst hv
    have e0 : mkS false (digs (val (digs m) * 10 ^ ((t : Int) - (t : Int)).toNat).toNat) = [.bool false, .ints (digs m)] := by
      rw [Int.sub_self, Int.toNat_zero, Int.pow_zero, Int.mul_one, val_digs, Int.toNat_natCast]; rfl
    rw [e0] at ho1
    obtain ⟨g0, gp, gn, gc, gz, rfl, _, _⟩ := open_Signed ho1.reps rfl
    refine ⟨_, _, _, _, he, ?_⟩
    refine Ret.at (impl_decOf_c ho1 hm ⟨by omega, by omega⟩) ?_
    rintro v w7 ⟨vs7, hv, ho7, y7⟩
    subst hv
    have Y := (y5.trans y6).trans y7
    have l5 := y5.le
    obtain ⟨d0, dp, dn, dc, dz, ds, rfl, _, _⟩ := open_Dec ho7.reps rfl
    obtain ⟨w8, st8, hb8, ch, sz⟩ := (k1.ext Y).storeA0 (P := P) (t := T_impl_Dec) (xs := [.bool d0, .slice dp dn dc, .int .i64 ds]) (by kernel_rfl) rfl (by simp [Value.oneCell'])
    have Z : Ext w w8 := (X4.trans Y).chg ch (by simp; omega)
    refine ⟨_, _, _, _, _, _, rfl, w8, st8, _, _, _, _, _, hb8.loadA0 (by kernel_rfl), [.bool d0, .slice dp dn dc, .int .i64 ds], dnn m t, ?_, (ho7.chg1 ch (by omega)).reps, rfl, fun _ => ?_, Z⟩
    · rw [Nat.sub_self, Nat.pow_zero, Nat.mod_one]; rfl
    · rw [Nat.sub_self, Nat.pow_zero, Nat.div_one]
  · have hlt : t < s := by omega
    have ek : ((s : Int) - (t : Int)).toNat = s - t := by omega
    have eks : ((s : Int) - (t : Int)) = ((s - t : Nat) : Int) := by omega
    have D := Ext.drew w4
    have k0 := q0.ext D
    refine ⟨_, _, _, fun W hW => (k0.ext hW).loadAt 1 rfl (by kernel_rfl) rfl, _, fun W hW => (k0.ext hW).loadAt 2 rfl (by kernel_rfl) rfl, exW ⟨by omega, by omega⟩ ?_⟩
    refine Ret.at (impl_natTen_c (k := (s : Int) - (t : Int)) (by omega) (by omega)) ?_
    rintro v w5 ⟨p5, n5, c5, hv, ho5, y5⟩
    subst hv
    rw [ek] at ho5
    have hl5 := ho5.ints.1
    have ht5 := ten_len (k := s - t) (by omega)
    have hp5 : 0 < (digs (10 ^ (s - t))).length := digs_pos_len.2 (Nat.ne_of_gt (Nat.pow_pos (by decide)))
    refine ⟨_, _, _, rfl, y5, ?_⟩
    refine Ret.at (impl_natDiv_c (ha.ext ((X3.trans D).trans y5)) ho5.ints (digs_canon m) (digs_canon _) (by omega) (by omega) (by omega)) ?_
    rintro v w6 ⟨p1, n1, c1, p2, n2, c2, hv, hoq, hor, _, y6⟩
    subst hv
    rw [val_div] at hoq
    rw [val_mod] at hor
    have Y := (D.trans y5).trans y6
    have i1 := hoq.ints; have i2 := hor.ints
    have hml : (digs (m / 10 ^ (s - t))).length <= 6 := digs_div_len hm
    refine ⟨_, _, _, _, _, _, rfl, ifD (fun hrem => ?_) (fun hno => ?_)⟩
    · have hne : m % 10 ^ (s - t) ≠ 0 := digs_pos_len.1 (by have := i2.1; omega)
      obtain ⟨w8, st8, hb8, ch, sz⟩ := (q1.ext Y).storeA0 (P := P) (t := T_impl_Dec) (xs := [.bool false, .slice none 0 0, .int .i64 0]) (by kernel_rfl) rfl (by simp [Value.oneCell'])
      have Z : Ext w w8 := (X3.trans Y).chg ch (by simp; omega)
      exact ⟨w8, st8, _, _, _, _, _, hb8.loadA0 (by kernel_rfl), [.bool false, .slice none 0 0, .int .i64 0], [.bool false, .ints [], .int 0], by rw [decide_eq_false hne], ⟨rfl, ⟨_, _, _, rfl, IntsR.nil _ _ (by omega)⟩, rfl, trivial⟩, rfl, fun hh => absurd hh hne, Z⟩
    · have heq : m % 10 ^ (s - t) = 0 := Decidable.byContradiction fun hh => by
        have := digs_pos_len.2 hh
        have := i2.1
        omega
      refine ⟨_, (q0.ext Y).loadAt 0 rfl (by kernel_rfl) rfl, ?_⟩
      refine Ret.at (impl_signed_c (neg := false) i1.1) ?_
      rintro v w9 ⟨hv, y9⟩
      subst hv
      have Y5 := Y.trans y9
      refine ⟨_, _, _, _, rfl, ?_⟩
      refine Ret.at (impl_decOf_r (xs := [.bool (false && !(digs (m / 10 ^ (s - t))).isEmpty), .slice p1 n1 c1]) ⟨rfl, ⟨_, _, _, rfl, i1.ext y9⟩, trivial⟩ hml ⟨by omega, by omega⟩) ?_
      rintro v w7 ⟨vs7, hv, hp7, y7⟩
      subst hv
      obtain ⟨d0, dp, dn, dc, dz, ds, rfl, hde, hdi⟩ := open_Dec hp7 rfl
      have hde' := hde
      simp only [dnn, List.cons.injEq, D0.bool.injEq, D0.ints.injEq, D0.int.injEq, and_true] at hde'
      obtain ⟨rfl, rfl, rfl⟩ := hde'
      have Y7 := Y5.trans y7
      obtain ⟨w8, st8, hb8, ch, sz⟩ := (q1.ext Y7).storeA0 (P := P) (t := T_impl_Dec) (xs := [.bool false, .slice dp dn dc, .int .i64 (t : Int)]) (by kernel_rfl) rfl (by simp [Value.oneCell'])
      have Z : Ext w w8 := (X3.trans Y7).chg ch (by simp; omega)
      exact ⟨_, _, _, _, _, _, rfl, w8, st8, _, _, _, _, _, hb8.loadA0 (by kernel_rfl), [.bool false, .slice dp dn dc, .int .i64 (t : Int)], dnn (m / 10 ^ (s - t)) t, by rw [decide_eq_true heq], ⟨rfl, ⟨_, _, _, rfl, IntsR.store3 (q1.ext Y7) hdi ch⟩, rfl, trivial⟩, rfl, fun _ => rfl, Z⟩
theorem impl_DecLow_n {w : World} {xs : List Value} {m s : Nat} (h : Reps w xs (dnn m s)) (hm : (digs m).length <= 6) (hs : s <= 30) :
    Ret P n_impl_DecLow [.agg ⟨xs⟩] w fun v w' => ∃ vs, v = .agg ⟨vs⟩ /\ Reps w' vs (dnn (lowM m s) (lowS m s)) /\ Ext w w' := by
  have hr := h
  obtain ⟨a0, ap, an, ac, az, a2, rfl, hd, ha⟩ := open_Dec h rfl
  simp only [dnn, List.cons.injEq, D0.bool.injEq, D0.ints.injEq, D0.int.injEq, and_true] at hd
  obtain ⟨rfl, rfl, rfl⟩ := hd
  refine impl_DecLow_ret ?_
  unfold impl_DecLow
  intro r w1 hn1 r1 w2 hn2
  have e1 := hn1.r_eq; have e2 := hn2.r_eq; have z1 := hn1.size; have z2 := hn2.size
  have X := hn1.ext.trans hn2.ext
  have q0 := hn1.blk.ext hn2.ext
  refine ⟨fun i wr => ∃ t : Nat, i = t /\ t <= s /\ (∀ u < t, m % 10 ^ (s - u) ≠ 0) /\ Ext w2 wr, fun i _ => (31 - i).toNat, ⟨0, rfl, by omega, fun u hu => absurd hu (by omega), Ext.refl _⟩, ?_⟩
  intro junk wr i ⟨t, hi, ht, hmin, hx⟩
  subst hi
  refine ⟨_, (q0.ext hx).loadAt 2 rfl (by kernel_rfl) rfl, ifD (fun _ => ifD (fun _ => ?_) (fun hh => absurd (show (t : Int) <= 30 by omega) hh)) (fun hh => absurd (show (t : Int) <= (s : Int) by omega) hh)⟩
  unfold impl_DecLow_j0
  refine ⟨_, _, _, _, _, (q0.ext hx).loadA0 (by kernel_rfl), ?_⟩
  refine Ret.at (impl_DecAt_n (hr.ext (X.trans hx)) hm hs ht) ?_
  rintro v w4 ⟨vs, d, hv, hp, hcode, hd, y4⟩
  subst hv
  obtain ⟨d0, dp, dn, dc, dz, ds, rfl, hde, hdi⟩ := open_Dec hp hcode
  refine ⟨_, _, _, _, _, _, rfl, ?_⟩
  intro r5 w5 hn5
  obtain ⟨w6, st6, hb6, y6⟩ := hn5.fill (P := P) (t := T_impl_Dec) (xs := [.bool d0, .slice dp dn dc, .int .i64 ds]) (by simp [Value.oneCell']) (by kernel_rfl) rfl
  have Y := (hx.trans y4).trans y6
  refine ⟨w6, st6, fun hyes => ?_, fun hno => ?_⟩
  · have hyes := of_decide_eq_true hyes
    have hd := hd hyes
    rw [hde] at hd
    simp only [dnn, List.cons.injEq, D0.bool.injEq, D0.ints.injEq, D0.int.injEq, and_true] at hd
    obtain ⟨rfl, rfl, rfl⟩ := hd
    have hlow := lowS_eq ht hyes hmin
    obtain ⟨w7, st7, hb7, ch, sz⟩ := (hn2.blk.ext Y).storeA0 (P := P) (t := T_impl_Dec) (xs := [.bool false, .slice dp dn dc, .int .i64 (t : Int)]) (by kernel_rfl) rfl (by simp [Value.oneCell'])
    refine ⟨_, _, _, _, _, hb6.loadA0 (by kernel_rfl), w7, st7, _, _, _, _, _, hb7.loadA0 (by kernel_rfl), [.bool false, .slice dp dn dc, .int .i64 (t : Int)], rfl, ?_, (X.trans Y).chg ch (by simp; omega)⟩
    rw [lowM, hlow]
    exact ⟨rfl, ⟨_, _, _, rfl, IntsR.store3 (hn2.blk.ext Y) (hdi.ext y6) ch⟩, rfl, trivial⟩
  · have hno := of_decide_eq_false hno
    have hts : t < s := by
      rcases Nat.lt_or_ge t s with hh | hh
      · exact hh
      · exfalso
        apply hno
        rw [show s - t = 0 by omega, Nat.pow_zero, Nat.mod_one]
    refine exW ⟨by omega, by omega⟩ ⟨⟨t + 1, by omega, by omega, fun u hu => ?_, Y⟩, ?_⟩
    · rcases Nat.lt_or_ge u t with hh | hh
      · exact hmin u hh
      · rw [show u = t by omega]; exact hno
    · show (31 - ((t : Int) + 1)).toNat < (31 - (t : Int)).toNat
      omega
end Go.Proofs.YtbgokfhcgcoipaaGreatDoor
namespace Go.Proofs.YtbgokfhcgcoipaaGreatDoor
open Go Go.Proofs.YtbgokfhcgcoipaaGreatDoor.Sx
theorem agg_end {t : TypeId} {w W : World} {r : Nat} {e : TypeId} {old xs : List Value} {d : List D0} {f : List Nat} {B : Nat} (hb : Blk W r e old) (X : Ext w W) (hr : w.heap.size <= r)
    (ho : Owns W B xs d f) (ht : aggT P t xs.length = true) (hlen : xs.length = old.length) (hrB : r < B) (hwB : w.heap.size <= B) :
    ∃ W', Stores P t ⟨r, 0, none⟩ (.agg ⟨xs⟩) W W' /\ Loads P t ⟨r, 0, none⟩ (.agg ⟨xs⟩) W' /\ Owns W' w.heap.size xs d f /\ Ext w W' /\ Chg [r] W W' /\ Blk W' r e xs := by
  obtain ⟨W', st, hb', ch, _⟩ := hb.storeA0 (P := P) (t := t) (xs := xs) ht hlen ho.reps.cells1
  exact ⟨W', st, hb'.loadA0 ht, (ho.chg1 ch hrB).mono hwB, X.chg ch (by simp; exact hr), ch, hb'⟩
end Go.Proofs.YtbgokfhcgcoipaaGreatDoor
namespace Go.Proofs.YtbgokfhcgcoipaaGreatDoor
open Go Go.Proofs.YtbgokfhcgcoipaaGreatDoor.Sx
theorem own_rat0 (W : World) (B : Nat) : Owns W B [.bool false, .slice none 0 0, .slice none 0 0] rat0 [] :=
  Owns.append (Owns.bool W B false) (Owns.append (Owns.ints (zs := []) (Own.nil W B T_int 1)) (Owns.ints (zs := []) (Own.nil W B T_int 1)))
theorem own_sgn0 (W : World) (B : Nat) : Owns W B [.bool false, .slice none 0 0] (enc 0) [] := by
  rw [enc0]
  exact Owns.append (Owns.bool W B false) (Owns.ints (zs := []) (Own.nil W B T_int 1))
theorem redR_no {n : Int} {d : Nat} (h : redOk n d = false) : redR n d = rat0 := by rw [redR, h]; rfl
theorem redR_yes {n : Int} {d : Nat} (h : redOk n d = true) : redR n d = rmk (redN n d) (redD n d) := by rw [redR, if_pos h]
theorem own_rmk {W : World} {B : Nat} {b : Bool} {p q : Option Addr} {n c m c2 : Nat} {N : Int} {D : Nat} {f : List Nat} (h : Owns W B [.bool b, .slice p n c] (enc N) f) (k : Own W B T_int 1 q m c2 ((digs D).map (Value.int .i64))) : Owns W B [.bool b, .slice p n c, .slice q m c2] (rmk N D) (f ++ (q.map (·.block)).toList) := by
  rw [rmk_enc]; exact Owns.append h (Owns.ints k)
theorem impl_reduce_c {w : World} {xs : List Value} {n : Int} {d : Nat} {p : Option Addr} {m c : Nat} (h : Reps w xs (enc n)) (k : IntsR w p m c (digs d)) (hd : 0 < d) (hl : (digs n.natAbs).length <= 1000) (hm : m <= 1000) :
    Ret P n_impl_reduce [.agg ⟨xs⟩, .slice p m c] w fun v w' => ∃ vs f, v = .tuple #[.agg ⟨vs⟩, .bool (redOk n d)] /\ Owns w' w.heap.size vs (redR n d) f /\ f.Nodup /\ Ext w w' := by
  obtain ⟨a0, ap, an, ac, az, rfl, hda, ha⟩ := open_Signed h (enc_code _)
  simp only [enc, List.cons.injEq, D0.bool.injEq, D0.ints.injEq, and_true] at hda
  obtain ⟨rfl, rfl⟩ := hda
  have hla := ha.1; have hlk := k.1
  refine impl_reduce_ret ?_
  unfold impl_reduce
  intro r w1 hn1 r1 w2 hn2
  have e1 := hn1.r_eq; have e2 := hn2.r_eq; have z1 := hn1.size; have z2 := hn2.size
  have X := hn1.ext.trans hn2.ext
  have q0 := hn1.blk.ext hn2.ext
  refine ⟨_, _, _, q0.loadAt 1 rfl (by kernel_rfl) rfl, ?_⟩
  refine Ret.at (impl_natGcd_c (ha.ext X) (k.ext X) (by omega) (by omega)) ?_
  rintro v w3 ⟨p3, n3, c3, hv, og, y3⟩
  subst hv
  have G := og.ints
  have gpos : 0 < Nat.gcd n.natAbs d := gcd_pos_right hd
  have lg := G.1
  have hg3 : 0 < n3 := by have := digs_pos_len.2 (show Nat.gcd n.natAbs d ≠ 0 by omega); omega
  have hg4 : n3 <= 1000 := by have := digs_mono_len (Nat.le_of_dvd hd (Nat.gcd_dvd_right n.natAbs d)); omega
  refine ⟨_, _, _, rfl, _, _, _, (q0.ext y3).loadAt 1 rfl (by kernel_rfl) rfl, ?_⟩
  refine Ret.at (impl_natDiv_c (ha.ext (X.trans y3)) G (digs_canon _) (digs_canon _) hg3 (by omega) (by omega)) ?_
  rintro v w4 ⟨p4, n4, c4, p5, n5, c5, hv, o4, _, _, y4⟩
  subst hv
  rw [val_div] at o4
  refine ⟨_, _, _, _, _, _, rfl, ?_⟩
  refine Ret.at (impl_natDiv_c (k.ext ((X.trans y3).trans y4)) (G.ext y4) (digs_canon _) (digs_canon _) hg3 (by omega) (by omega)) ?_
  rintro v w5 ⟨p6, n6, c6, p7, n7, c7, hv, o6, _, _, y5⟩
  subst hv
  rw [val_div] at o6
  have l4 := o4.ints.1; have l6 := o6.ints.1
  have Y := y3.trans (y4.trans y5)
  have q0 := q0.ext Y; have q1 := hn2.blk.ext Y
  have ly3 := y3.le; have ly4 := y4.le; have ly5 := y5.le
  have hok : redOk n d = (decide (n4 <= 18) && decide (n6 <= 18)) := by rw [redOk, l4, l6]
  have bad : redOk n d = false -> ∃ W', Stores P T_impl_Rat ⟨r1, 0, none⟩ (.agg ⟨[.bool false, .slice none 0 0, .slice none 0 0]⟩) w5 W' /\ Loads P T_impl_Rat ⟨r1, 0, none⟩ (.agg ⟨[.bool false, .slice none 0 0, .slice none 0 0]⟩) W' /\ Owns W' w.heap.size [.bool false, .slice none 0 0, .slice none 0 0] (redR n d) [] /\ Ext w W' := fun hno => by
    obtain ⟨W', st, ld, ow, xx, _, _⟩ := agg_end (t := T_impl_Rat) q1 (X.trans Y) (by omega) (own_rat0 w5 (r1 + 1)) (by kernel_rfl) rfl (by omega) (by omega)
    exact ⟨W', st, ld, by rw [redR_no hno]; exact ow, xx⟩
  refine ⟨_, _, _, _, _, _, rfl, ifD (fun h4 => ifT ?_) (fun h4 => ifD (fun h6 => ?_) (fun h6 => ?_))⟩
  · have hno : redOk n d = false := by rw [hok, decide_eq_false (by omega)]; rfl
    obtain ⟨W', st, ld, ow, xx⟩ := bad hno
    exact ⟨W', st, _, _, _, _, _, _, _, ld, _, [], by rw [hno], ow, List.nodup_nil, xx⟩
  · have hno : redOk n d = false := by rw [hok, decide_eq_false (show ¬ n6 <= 18 by omega), Bool.and_false]
    obtain ⟨W', st, ld, ow, xx⟩ := bad hno
    exact ⟨W', st, _, _, _, _, _, _, _, ld, _, [], by rw [hno], ow, List.nodup_nil, xx⟩
  · have hyes : redOk n d = true := by rw [hok, decide_eq_true (show n4 <= 18 by omega), decide_eq_true (show n6 <= 18 by omega)]; rfl
    refine ⟨_, q0.loadAt 0 rfl (by kernel_rfl) rfl, ?_⟩
    refine Ret.at (impl_signed_c (neg := decide (n < 0)) (o4.ext y5).ints.1) ?_
    rintro v w6 ⟨hv, y6⟩
    subst hv
    have ho : Owns w6 w3.heap.size [.bool (decide (n < 0) && !(digs (n.natAbs / Nat.gcd n.natAbs d)).isEmpty), .slice p4 n4 c4] (enc (redN n d)) (p4.map (·.block)).toList := by
      rw [enc_redN]
      exact Owns.int2 ((o4.ext y5).ext y6)
    have hr := own_rmk ho ((o6.mono (show w3.heap.size <= w4.heap.size by omega)).ext y6)
    obtain ⟨W', st, ld, ow, xx, _, _⟩ := agg_end (t := T_impl_Rat) (q1.ext y6) ((X.trans Y).trans y6) (by omega) hr (by kernel_rfl) rfl (by omega) (by omega)
    refine ⟨_, _, _, _, rfl, W', st, _, _, _, _, _, _, _, ld, _, _, by rw [hyes], by rw [redR_yes hyes]; exact ow, ?_, xx⟩
    exact nodup_append (nodup_opt p4) (nodup_opt p6) (m := w4.heap.size) (fun q hq => (ho.lt q hq).2 |> fun _ => (World.ownsRow.lt o4 q (by cases p4 <;> simp_all [Value.ownBlock])).2) (fun q hq => (World.ownsRow.lt o6 q (by cases p6 <;> simp_all [Value.ownBlock])).1)
end Go.Proofs.YtbgokfhcgcoipaaGreatDoor
namespace Go.Proofs.YtbgokfhcgcoipaaGreatDoor
open Go Go.Proofs.YtbgokfhcgcoipaaGreatDoor.Sx
theorem rmk_open {w : World} {vs : List Value} {N : Int} {D : Nat} (h : Reps w vs (rmk N D)) (hok : ratOk (rmk N D) = true) :
    ∃ p1 n1 c1 p2 n2 c2, vs = [.bool (decide (N < 0)), .slice p1 n1 c1, .slice p2 n2 c2] /\ IntsR w p1 n1 c1 (digs N.natAbs) /\ IntsR w p2 n2 c2 (digs D) /\ n1 <= 18 /\ n2 <= 18 /\ Reps w [.bool (decide (N < 0)), .slice p1 n1 c1] (enc N) /\ 0 < D := by
  have := rat_parts h (rmk_code N D) hok
  have k := (ratOk_enc hok).2.1
  rw [ratNum_rmk, ratDen_rmk] at this
  rw [ratDen_rmk] at k
  obtain ⟨p1, n1, c1, p2, n2, c2, a, b, c, d, e, f⟩ := this
  exact ⟨p1, n1, c1, p2, n2, c2, a, b, c, d, e, f, k⟩
theorem mkS_of {b : Bool} {m : Nat} {z : Int} (hm : m = z.natAbs) (hb : z ≠ 0 -> b = decide (z < 0)) : mkS b (digs m) = enc z := by
  by_cases hz : z = 0
  · subst hz; subst hm; simp [mkS, enc, digs_zero]
  · rw [hb hz, hm]
    unfold mkS enc
    rw [isEmpty_digs]
    have : z.natAbs ≠ 0 := by omega
    simp [this]
theorem mul_sign {x y : Int} (h : x * y ≠ 0) : (!(decide (x < 0) == decide (y < 0))) = decide (x * y < 0) := by
  have hx : x ≠ 0 := fun e => h (by rw [e, Int.zero_mul])
  have hy : y ≠ 0 := fun e => h (by rw [e, Int.mul_zero])
  rcases Int.lt_or_gt_of_ne hx with h1 | h1 <;> rcases Int.lt_or_gt_of_ne hy with h2 | h2
  · have := Int.mul_pos_of_neg_of_neg h1 h2
    simp [h1, h2]; omega
  · have := Int.mul_neg_of_neg_of_pos h1 h2
    have h3 : ¬ y < 0 := by omega
    simp [h1, h3, this]
  · have := Int.mul_neg_of_pos_of_neg h1 h2
    have h3 : ¬ x < 0 := by omega
    simp [h2, h3, this]
  · have := Int.mul_pos h1 h2
    have h3 : ¬ x < 0 := by omega
    have h4 : ¬ y < 0 := by omega
    simp [h3, h4]; omega
theorem val_mul (m k : Nat) : (val (digs m) * val (digs k)).toNat = m * k := by rw [val_digs, val_digs, <- Int.natCast_mul, Int.toNat_natCast]
theorem natCast_enc (k : Nat) : enc (k : Int) = [.bool false, .ints (digs k)] := enc_nat k
theorem own_int {W : World} {B : Nat} {b : Bool} {p : Option Addr} {n c m : Nat} {z : Int} (h : Own W B T_int 1 p n c ((digs m).map (Value.int .i64))) (hm : m = z.natAbs) (hb : z ≠ 0 -> b = decide (z < 0)) :
    Owns W B [.bool (b && !(digs m).isEmpty), .slice p n c] (enc z) (p.map (·.block)).toList := by
  rw [<- mkS_of hm hb]
  exact Owns.int2 h
def FlSt (o : Obj) (w0 : World) (ss : List (Option Nat)) (w : World) : Prop := Ext w0 w /\ (ss = [none] ∨ ∃ r, ss = [some r] /\ w0.heap.size <= r /\ w.heap[r]? = some o)
theorem FlSt.start {o : Obj} (w0 : World) : FlSt o w0 [none] w0 := ⟨Ext.refl _, .inl rfl⟩
theorem FlSt.ext {o : Obj} {w0 w w' : World} {ss : List (Option Nat)} (h : FlSt o w0 ss w) (y : Ext w w') : FlSt o w0 ss w' := by
  refine ⟨h.1.trans y, ?_⟩
  rcases h.2 with h2 | ⟨r, h2, h3, h4⟩
  · exact .inl h2
  · exact .inr ⟨r, h2, h3, (y.block r (Array.getElem?_eq_some_iff.1 h4).1).trans h4⟩
theorem FlSt.step {o : Obj} {w0 w w' : World} {ss ss' : List (Option Nat)} (h : FlSt o w0 ss w) (f : Fl [o] ss w ss' w') : FlSt o w0 ss' w' := by
  refine ⟨h.1.trans f.ext, ?_⟩
  have hl := f.len
  rcases h.2 with h2 | ⟨r, h2, h3, h4⟩
  · subst h2
    match ss', hl, f with
    | [none], _, _ => exact .inl rfl
    | [some r], _, f =>
      obtain ⟨a, b⟩ := f.got (k := 0) rfl rfl rfl
      exact .inr ⟨r, rfl, Nat.le_trans h.1.le a, b⟩
    | [], hl, _ => simp at hl
    | _ :: _ :: _, hl, _ => simp at hl
  · subst h2
    have hk := f.keeps (k := 0) (r := r) rfl
    match ss', hl, hk with
    | [x], _, hk =>
      simp at hk
      subst hk
      exact .inr ⟨r, rfl, h3, (f.ext.block r (Array.getElem?_eq_some_iff.1 h4).1).trans h4⟩
    | [], hl, _ => simp at hl
    | _ :: _ :: _, hl, _ => simp at hl
theorem FlSt.get {o : Obj} {w0 w : World} {ss : List (Option Nat)} {r : Nat} (h : FlSt o w0 ss w) (hr : ss[0]? = some (some r)) : w0.heap.size <= r /\ w.heap[r]? = some o := by
  rcases h.2 with h2 | ⟨r', h2, h3, h4⟩
  · subst h2; simp at hr
  · subst h2
    simp at hr
    subst hr
    exact ⟨h3, h4⟩
theorem impl_ratsOk_c {w : World} {xs ys : List Value} {N1 N2 : Int} {D1 D2 : Nat} (h : Reps w xs (rmk N1 D1)) (g : Reps w ys (rmk N2 D2)) (hok : ratOk (rmk N1 D1) = true) (gok : ratOk (rmk N2 D2) = true) :
    Ret P n_impl_ratsOk [.agg ⟨xs⟩, .agg ⟨ys⟩] w fun v w' => v = .bool true /\ Ext w w' := by
  have hr := h; have gr := g
  obtain ⟨p1, n1, c1, q1, m1, d1, rfl, i1, i2, _, _, he, hd1⟩ := rmk_open h hok
  obtain ⟨p2, n2, c2, q2, m2, d2, rfl, j1, j2, _, _, ke, hd2⟩ := rmk_open g gok
  refine impl_ratsOk_ret ?_
  unfold impl_ratsOk
  intro r w1 hn1 r1 w2 hn2
  have X := hn1.ext.trans hn2.ext
  refine ⟨_, _, _, _, _, _, _, (hn1.blk.ext hn2.ext).loadA0 (by kernel_rfl), ?_⟩
  refine Ret.at (impl_RatOk_c (hr.ext X) (rmk_code _ _)) ?_
  rintro v w3 ⟨hv, y3⟩
  subst hv
  rw [hok]
  refine ⟨_, rfl, ifT ⟨_, _, _, _, _, _, _, (hn2.blk.ext y3).loadA0 (by kernel_rfl), ?_⟩⟩
  refine Ret.at (impl_RatOk_c (gr.ext (X.trans y3)) (rmk_code _ _)) ?_
  rintro v w4 ⟨hv, y4⟩
  subst hv
  rw [gok]
  exact ⟨_, rfl, rfl, (X.trans y3).trans y4⟩
theorem impl_intMul_s {w : World} {xs ys : List Value} {x y : Int} (h : Reps w xs (enc x)) (g : Reps w ys (enc y)) (hx : (digs x.natAbs).length <= 100) (hy : (digs y.natAbs).length <= 100) :
    Ret P n_impl_intMul [.agg ⟨xs⟩, .agg ⟨ys⟩] w fun v w' => ∃ vs f, v = .agg ⟨vs⟩ /\ Owns w' w.heap.size vs (enc (x * y)) f /\ f.Nodup /\ Ext w w' := by
  obtain ⟨a0, ap, an, ac, az, rfl, hd, ha⟩ := open_Signed h (enc_code _)
  simp only [enc, List.cons.injEq, D0.bool.injEq, D0.ints.injEq, and_true] at hd
  obtain ⟨rfl, rfl⟩ := hd
  obtain ⟨b0, bp, bn, bc, bz, rfl, hd, hb⟩ := open_Signed g (enc_code _)
  simp only [enc, List.cons.injEq, D0.bool.injEq, D0.ints.injEq, and_true] at hd
  obtain ⟨rfl, rfl⟩ := hd
  have la := ha.1; have lb := hb.1
  refine impl_intMul_ret ?_
  unfold impl_intMul
  intro r w1 hn1 r1 w2 hn2 r2 w3 hn3
  have e1 := hn1.r_eq; have e2 := hn2.r_eq; have e3 := hn3.r_eq; have z1 := hn1.size; have z2 := hn2.size; have z3 := hn3.size
  have D := Ext.drew w3
  have X := ((hn1.ext.trans hn2.ext).trans hn3.ext).trans D
  have q0 := ((hn1.blk.ext hn2.ext).ext hn3.ext).ext D
  have q1 := (hn2.blk.ext hn3.ext).ext D
  have q2 := hn3.blk.ext D
  have lD := D.le
  refine ⟨_, fun W hW => (q0.ext hW).loadAt 0 rfl (by kernel_rfl) rfl, _, fun W hW => (q1.ext hW).loadAt 0 rfl (by kernel_rfl) rfl, _, _, _, fun W hW => (q0.ext hW).loadAt 1 rfl (by kernel_rfl) rfl, _, _, _, fun W hW => (q1.ext hW).loadAt 1 rfl (by kernel_rfl) rfl, ?_⟩
  refine Ret.at (impl_natMul_c (ha.ext X) (hb.ext X) (digs_limbs _) (digs_limbs _) (by omega) (by omega)) ?_
  rintro v w4 ⟨p', n', c', hv, ho, y4⟩
  subst hv
  rw [val_mul] at ho
  refine ⟨_, _, _, rfl, y4, ?_⟩
  refine Ret.at (impl_signed_c (neg := !(decide (x < 0) == decide (y < 0))) ho.ints.1) ?_
  rintro v w5 ⟨hv, y5⟩
  subst hv
  obtain ⟨W', st, ld, ow, xx, _, _⟩ := agg_end (t := T_impl_Signed) ((q2.ext y4).ext y5) ((X.trans y4).trans y5) (by omega) (own_int (ho.ext y5) (z := x * y) (by rw [Int.natAbs_mul]) mul_sign) (by kernel_rfl) rfl (by omega) (by omega)
  exact ⟨_, _, _, _, rfl, W', st, _, _, _, _, ld, _, _, rfl, ow, nodup_opt p', xx⟩
theorem impl_RatMul_n {w : World} {xs ys : List Value} {N1 N2 : Int} {D1 D2 : Nat} (h : Reps w xs (rmk N1 D1)) (g : Reps w ys (rmk N2 D2)) (hok : ratOk (rmk N1 D1) = true) (gok : ratOk (rmk N2 D2) = true) :
    Ret P n_impl_RatMul [.agg ⟨xs⟩, .agg ⟨ys⟩] w fun v w' => ∃ vs f, v = .tuple #[.agg ⟨vs⟩, .bool (redOk (N1 * N2) (D1 * D2))] /\ Owns w' w.heap.size vs (redR (N1 * N2) (D1 * D2)) f /\ f.Nodup /\ Ext w w' := by
  have hr := h; have gr := g
  obtain ⟨p1, n1, c1, q1, m1, d1, rfl, i1, i2, li1, li2, he, hd1⟩ := rmk_open h hok
  obtain ⟨p2, n2, c2, q2, m2, d2, rfl, j1, j2, lj1, lj2, ke, hd2⟩ := rmk_open g gok
  have ei1 := i1.1; have ei2 := i2.1; have ej1 := j1.1; have ej2 := j2.1
  have pN := prod_len (x := N1.natAbs) (y := N2.natAbs) (i := 18) (j := 18) (by omega) (by omega)
  have pD := prod_len (x := D1) (y := D2) (i := 18) (j := 18) (by omega) (by omega)
  refine impl_RatMul_ret ?_
  unfold impl_RatMul
  intro r w1 hn1 r1 w2 hn2 r2 w3 hn3
  have e1 := hn1.r_eq; have e2 := hn2.r_eq; have e3 := hn3.r_eq; have z1 := hn1.size; have z2 := hn2.size; have z3 := hn3.size
  have X := (hn1.ext.trans hn2.ext).trans hn3.ext
  have b0 := (hn1.blk.ext hn2.ext).ext hn3.ext; have b1 := hn2.blk.ext hn3.ext; have b2 := hn3.blk
  refine ⟨_, _, _, _, _, _, _, b0.loadA0 (by kernel_rfl), _, _, _, _, _, _, _, b1.loadA0 (by kernel_rfl), ?_⟩
  refine Ret.at (impl_ratsOk_c (hr.ext X) (gr.ext X) hok gok) ?_
  rintro v w4 ⟨hv, y4⟩
  subst hv
  refine ⟨_, rfl, ifN (fun hh => absurd hh (by simp)) (fun _ => ?_)⟩
  have D := Ext.drew w4
  have Y := y4.trans D
  have X4 := X.trans Y
  have lY := Y.le
  have b0 := b0.ext Y; have b1 := b1.ext Y; have b2 := b2.ext Y
  refine ⟨_, _, _, _, fun W hW => (b0.ext hW).loadAAt 0 [.bool (decide (N1 < 0)), .slice p1 n1 c1] rfl (by kernel_rfl) rfl, _, _, _, _, fun W hW => (b1.ext hW).loadAAt 0 [.bool (decide (N2 < 0)), .slice p2 n2 c2] rfl (by kernel_rfl) rfl, ?_⟩
  refine Ret.at (impl_intMul_s (he.ext X4) (ke.ext X4) (by omega) (by omega)) ?_
  rintro v w5 ⟨vs5, f5, hv, ho5, _, y5⟩
  subst hv
  obtain ⟨s0, sp, sn, sc, sz, rfl, _, _⟩ := open_Signed ho5.reps (enc_code _)
  refine ⟨_, _, _, _, rfl, y5, _, _, _, fun W hW => (b0.ext hW).loadAt 2 rfl (by kernel_rfl) rfl, _, _, _, fun W hW => (b1.ext hW).loadAt 2 rfl (by kernel_rfl) rfl, ?_⟩
  refine Ret.at (impl_natMul_c (i2.ext (X4.trans y5)) (j2.ext (X4.trans y5)) (digs_limbs _) (digs_limbs _) (by omega) (by omega)) ?_
  rintro v w6 ⟨p6, n6, c6, hv, o6, y6⟩
  subst hv
  rw [val_mul] at o6
  have l6 := o6.ints.1
  have l5 := y5.le; have l6' := y6.le
  refine ⟨_, _, _, rfl, ?_⟩
  refine Ret.at (impl_reduce_c (ho5.reps.ext y6) o6.ints (Nat.mul_pos hd1 hd2) (by rw [Int.natAbs_mul]; omega) (by omega)) ?_
  rintro v w99 ⟨vs9, f9, hv, ho9, nd9, y99⟩
  subst hv
  obtain ⟨zb, zp, zn, zc, zz, zp2, zn2, zc2, zz2, rfl, _, _, _⟩ := open_Rat ho9.reps (redR_code _ _)
  obtain ⟨W', st', ld', ow', xx', _, _⟩ := agg_end (t := T_impl_Rat) (((b2.ext y5).ext y6).ext y99) (((X4.trans y5).trans y6).trans y99) (by omega) ho9 (by kernel_rfl) rfl (by omega) (by omega)
  exact ⟨_, _, _, _, _, _, _, _, rfl, W', st', _, _, _, _, _, _, _, ld', _, f9, rfl, ow', nd9, xx'⟩
  
theorem impl_RatMake_n {w : World} {xs ys : List Value} {x : Int} {k : Nat} (h : Reps w xs (enc x)) (g : Reps w ys (enc (k : Int))) (hx : (digs x.natAbs).length <= 50) (hk : (digs k).length <= 50) (hk0 : 0 < k) :
    Ret P n_impl_RatMake [.agg ⟨xs⟩, .agg ⟨ys⟩] w fun v w' => ∃ vs f, v = .tuple #[.agg ⟨vs⟩, .bool (redOk (x) (k))] /\ Owns w' w.heap.size vs (redR (x) (k)) f /\ f.Nodup /\ Ext w w' := by
  have hr := h; have gr := g
  obtain ⟨a0, p1, n1, c1, az, rfl, hd, i1⟩ := open_Signed h (enc_code _)
  simp only [enc, List.cons.injEq, D0.bool.injEq, D0.ints.injEq, and_true] at hd
  obtain ⟨rfl, rfl⟩ := hd
  rw [natCast_enc] at g
  obtain ⟨b0, p2, n2, c2, bz, rfl, hd, j1⟩ := open_Signed g rfl
  simp only [List.cons.injEq, D0.bool.injEq, D0.ints.injEq, and_true] at hd
  obtain ⟨rfl, rfl⟩ := hd
  have ei1 := i1.1; have ej1 := j1.1
  have ok1 : intOk (enc x) = true := enc_ok hx
  have ok2 : intOk (enc (k : Int)) = true := enc_ok (by rw [Int.natAbs_natCast]; exact hk)
  have hk1 := digs_pos_len.2 (show k ≠ 0 by omega)
  have sg : x ≠ 0 -> (!(decide (x < 0) == false)) = decide (x < 0) := fun _ => by cases decide (x < 0) <;> rfl
  refine impl_RatMake_ret ?_
  unfold impl_RatMake
  intro r w1 hn1 r1 w2 hn2 r2 w3 hn3
  have e1 := hn1.r_eq; have e2 := hn2.r_eq; have e3 := hn3.r_eq; have z1 := hn1.size; have z2 := hn2.size; have z3 := hn3.size
  have X := (hn1.ext.trans hn2.ext).trans hn3.ext
  have b0 := (hn1.blk.ext hn2.ext).ext hn3.ext; have b1 := hn2.blk.ext hn3.ext; have b2 := hn3.blk
  refine ⟨_, _, _, _, b0.loadA0 (by kernel_rfl), _, _, _, _, b1.loadA0 (by kernel_rfl), ?_⟩
  refine Ret.at (impl_intsOk_c (hr.ext X) (gr.ext X) (enc_code _) (enc_code _)) ?_
  rintro v w4 ⟨hv, y4⟩
  subst hv
  rw [ok1, ok2]
  refine ⟨_, rfl, ifN (fun hh => absurd hh (by simp)) (fun _ => ⟨_, _, _, (b1.ext y4).loadAt 1 rfl (by kernel_rfl) rfl, ifD (fun hh => absurd hh (by omega)) (fun _ => ?_)⟩)⟩
  unfold impl_RatMake_j0
  have D := Ext.drew w4
  have Y := y4.trans D
  have X4 := X.trans Y
  have lY := Y.le
  have b0 := b0.ext Y; have b1 := b1.ext Y; have b2 := b2.ext Y
  refine ⟨_, fun W hW => (b0.ext hW).loadAt 0 rfl (by kernel_rfl) rfl, _, fun W hW => (b1.ext hW).loadAt 0 rfl (by kernel_rfl) rfl, _, _, _, fun W hW => (b0.ext hW).loadAt 1 rfl (by kernel_rfl) rfl, ?_⟩
  refine Ret.at (impl_signed_c (neg := !(decide (x < 0) == false)) (i1.ext X4).1) ?_
  rintro v w5 ⟨hv, y5⟩
  subst hv
  have l5 := y5.le
  refine ⟨_, _, _, _, rfl, y5, _, _, _, fun W hW => (b1.ext hW).loadAt 1 rfl (by kernel_rfl) rfl, ?_⟩
  have hs : Reps w5 [.bool ((!(decide (x < 0) == false)) && !(digs x.natAbs).isEmpty), .slice p1 n1 c1] (enc x) := by
    rw [<- mkS_of (b := !(decide (x < 0) == false)) rfl sg]
    exact ⟨rfl, ⟨_, _, _, rfl, i1.ext (X4.trans y5)⟩, trivial⟩
  refine Ret.at (impl_reduce_c hs (j1.ext (X4.trans y5)) hk0 (by omega) (by omega)) ?_
  rintro v w99 ⟨vs9, f9, hv, ho9, nd9, y99⟩
  subst hv
  obtain ⟨zb, zp, zn, zc, zz, zp2, zn2, zc2, zz2, rfl, _, _, _⟩ := open_Rat ho9.reps (redR_code _ _)
  obtain ⟨W', st', ld', ow', xx', _, _⟩ := agg_end (t := T_impl_Rat) ((b2.ext y5).ext y99) ((X4.trans y5).trans y99) (by omega) ho9 (by kernel_rfl) rfl (by omega) (by omega)
  exact ⟨_, _, _, _, _, _, _, _, rfl, W', st', _, _, _, _, _, _, _, ld', _, f9, rfl, ow', nd9, xx'⟩
  
theorem impl_RatInt_n {w : World} {xs : List Value} {x : Int} (h : Reps w xs (enc x)) (hx : (digs x.natAbs).length <= 50) :
    Ret P n_impl_RatInt [.agg ⟨xs⟩] w fun v w' => ∃ vs f, v = .tuple #[.agg ⟨vs⟩, .bool (redOk (x) (1))] /\ Owns w' w.heap.size vs (redR (x) (1)) f /\ f.Nodup /\ Ext w w' := by
  have hr := h
  obtain ⟨a0, p1, n1, c1, az, rfl, hd, i1⟩ := open_Signed h (enc_code _)
  refine impl_RatInt_ret ?_
  unfold impl_RatInt
  intro r w1 hn1 r1 w2 hn2
  have e1 := hn1.r_eq; have e2 := hn2.r_eq; have z1 := hn1.size; have z2 := hn2.size
  have D := Ext.drew w2
  have lD := D.le
  have X := (hn1.ext.trans hn2.ext).trans D
  have b0 := (hn1.blk.ext hn2.ext).ext D; have b1 := hn2.blk.ext D
  refine ⟨_, _, _, _, fun W hW => (b0.ext hW).loadA0 (by kernel_rfl), ?_⟩
  refine Ret.at (impl_IntOf_c (n := 1) (by omega) (by omega)) ?_
  rintro v w3 ⟨vs3, f3, hv, ho3, _, y3⟩
  subst hv
  obtain ⟨s0, sp, sn, sc, sz, rfl, _, _⟩ := open_Signed ho3.reps (enc_code _)
  have l3 := y3.le
  refine ⟨_, _, _, _, rfl, y3, ?_⟩
  refine Ret.at (impl_RatMake_n (k := 1) (hr.ext (X.trans y3)) ho3.reps hx (by rw [digs_one]; decide) (by decide)) ?_
  rintro v w99 ⟨vs9, f9, hv, ho9, nd9, y99⟩
  subst hv
  obtain ⟨zb, zp, zn, zc, zz, zp2, zn2, zc2, zz2, rfl, _, _, _⟩ := open_Rat ho9.reps (redR_code _ _)
  obtain ⟨W', st', ld', ow', xx', _, _⟩ := agg_end (t := T_impl_Rat) ((b1.ext y3).ext y99) ((X.trans y3).trans y99) (by omega) ho9 (by kernel_rfl) rfl (by omega) (by omega)
  exact ⟨_, _, _, _, _, _, _, _, rfl, W', st', _, _, _, _, _, _, _, ld', _, f9, rfl, ow', nd9, xx'⟩
  
end Go.Proofs.YtbgokfhcgcoipaaGreatDoor
namespace Go.Proofs.YtbgokfhcgcoipaaGreatDoor
open Go Go.Proofs.YtbgokfhcgcoipaaGreatDoor.Sx
abbrev CurRow := ByteArray × ByteArray × Int × Int
def implTab : List CurRow := [(S [67, 72, 70], S [55, 53, 54], 2, 5), (S [69, 85, 82], S [57, 55, 56], 2, 1), (S [85, 83, 68], S [56, 52, 48], 2, 1), (S [71, 66, 80], S [56, 50, 54], 2, 1), (S [74, 80, 89], S [51, 57, 50], 0, 1), (S [83, 69, 75], S [55, 53, 50], 2, 100), (S [78, 79, 75], S [53, 55, 56], 2, 100), (S [68, 75, 75], S [50, 48, 56], 2, 50), (S [67, 90, 75], S [50, 48, 51], 2, 100), (S [72, 85, 70], S [51, 52, 56], 2, 500), (S [80, 76, 78], S [57, 56, 53], 2, 1), (S [67, 65, 68], S [49, 50, 52], 2, 5), (S [65, 85, 68], S [48, 51, 54], 2, 5), (S [78, 90, 68], S [53, 53, 52], 2, 10), (S [75, 87, 68], S [52, 49, 52], 3, 5), (S [66, 72, 68], S [48, 52, 56], 3, 5), (S [84, 78, 68], S [55, 56, 56], 3, 10), (S [73, 83, 75], S [51, 53, 50], 0, 1), (S [75, 82, 87], S [52, 49, 48], 0, 10), (S [67, 76, 70], S [57, 57, 48], 4, 1)]
def specTab : List CurRow := [(S [65, 85, 68], S [48, 51, 54], 2, 5), (S [66, 72, 68], S [48, 52, 56], 3, 5), (S [67, 65, 68], S [49, 50, 52], 2, 5), (S [67, 72, 70], S [55, 53, 54], 2, 5), (S [67, 76, 70], S [57, 57, 48], 4, 1), (S [67, 90, 75], S [50, 48, 51], 2, 100), (S [68, 75, 75], S [50, 48, 56], 2, 50), (S [69, 85, 82], S [57, 55, 56], 2, 1), (S [71, 66, 80], S [56, 50, 54], 2, 1), (S [72, 85, 70], S [51, 52, 56], 2, 500), (S [73, 83, 75], S [51, 53, 50], 0, 1), (S [74, 80, 89], S [51, 57, 50], 0, 1), (S [75, 82, 87], S [52, 49, 48], 0, 10), (S [75, 87, 68], S [52, 49, 52], 3, 5), (S [78, 79, 75], S [53, 55, 56], 2, 100), (S [78, 90, 68], S [53, 53, 52], 2, 10), (S [80, 76, 78], S [57, 56, 53], 2, 1), (S [83, 69, 75], S [55, 53, 50], 2, 100), (S [84, 78, 68], S [55, 56, 56], 3, 10), (S [85, 83, 68], S [56, 52, 48], 2, 1)]
theorem und_T_impl_currency : ∃ fs, Tryz.prog.underlying T_impl_currency = some (.struct fs) := ⟨_, Tryz.underlying252⟩
theorem und_T_20_impl_currency : Tryz.prog.underlying T_20_impl_currency = some (.array 20 T_impl_currency) := Tryz.underlying283
theorem cur_fields : ∃ fs : Array Field, Tryz.prog.underlying T_impl_currency = some (.struct fs) /\ fs.size = 4 /\ (∃ f, fs[0]? = some f /\ f.type = T_string /\ f.offset = 0) /\ (∃ f, fs[1]? = some f /\ f.type = T_string /\ f.offset = 1) /\ (∃ f, fs[2]? = some f /\ f.type = T_int /\ f.offset = 2) /\ (∃ f, fs[3]? = some f /\ f.type = T_int /\ f.offset = 3) :=
  ⟨_, Tryz.underlying252, rfl, ⟨_, rfl, rfl, rfl⟩, ⟨_, rfl, rfl, rfl⟩, ⟨_, rfl, rfl, rfl⟩, ⟨_, rfl, rfl, rfl⟩⟩
abbrev G_d32 : Nat := 5
def L_d32 : List Int := [0, 1, 28, 2, 29, 14, 24, 3, 30, 22, 20, 15, 25, 17, 4, 8, 31, 27, 13, 23, 21, 19, 16, 7, 26, 12, 18, 6, 11, 5, 10, 9]
abbrev G_d64 : Nat := 6
def L_d64 : List Int := [0, 1, 56, 2, 57, 49, 28, 3, 61, 58, 42, 50, 38, 29, 17, 4, 62, 47, 59, 36, 45, 43, 51, 22, 53, 39, 33, 30, 24, 18, 12, 5, 63, 55, 48, 27, 60, 41, 37, 16, 46, 35, 44, 21, 52, 32, 23, 11, 54, 26, 40, 15, 34, 20, 31, 10, 25, 14, 19, 9, 13, 8, 7, 6]
abbrev G_pow : Nat := 4
abbrev TA_pow : Nat := 338
abbrev TE_pow : Nat := 153
def L_pow : List Int := [1, 10, 100, 1000, 10000, 100000, 1000000, 10000000, 100000000, 1000000000, 10000000000, 100000000000, 1000000000000, 10000000000000, 100000000000000, 1000000000000000, 10000000000000000, 100000000000000000, 1000000000000000000, 10000000000000000000]
theorem und_A_pow : Tryz.prog.underlying TA_pow = some (.array 20 TE_pow) := Tryz.underlying338
theorem und_E_pow : Tryz.prog.underlying TE_pow = some (.int .u64) := Tryz.underlying153
abbrev G_cur : Nat := 0
end Go.Proofs.YtbgokfhcgcoipaaGreatDoor
namespace Go.Proofs.YtbgokfhcgcoipaaGreatDoor
open Go Go.Proofs.YtbgokfhcgcoipaaGreatDoor.Sx
def curCells (r : CurRow) : List Value := [.string r.1, .string r.2.1, .int .i64 r.2.2.1, .int .i64 r.2.2.2]
def curZero : CurRow := (ByteArray.empty, ByteArray.empty, 0, 0)
def curFind : List CurRow -> ByteArray -> CurRow
  | [], _ => curZero
  | r :: l, c => if r.1 = c then r else curFind l c
def curIn (l : List CurRow) (c : ByteArray) : Bool := l.any fun r => decide (r.1 = c)
def curKnown (c : ByteArray) : Bool := curIn implTab c
def Tab (w : World) : Prop := Seg w 0 0 (implTab.flatMap curCells)
theorem Tab.ext {w w' : World} (h : Tab w) (he : Ext w w') : Tab w' := Seg.ext h he
theorem curIn_drop {l : List CurRow} {c : ByteArray} {j : Nat} (hj : j < l.length) : curIn (l.drop j) c = (decide ((l[j]'hj).1 = c) || curIn (l.drop (j + 1)) c) := by
  rw [List.drop_eq_getElem_cons hj, curIn, List.any_cons]; rfl
theorem curFind_drop {l : List CurRow} {c : ByteArray} {j : Nat} (hj : j < l.length) : curFind (l.drop j) c = if (l[j]'hj).1 = c then l[j]'hj else curFind (l.drop (j + 1)) c := by
  rw [List.drop_eq_getElem_cons hj, curFind]
theorem flat_row : ∀ (l : List CurRow) (j : Nat) (hj : j < l.length), ((l.flatMap curCells).drop (j * 4)).take 4 = curCells (l[j]'hj)
  | r :: l, 0, _ => by simp [List.flatMap_cons, curCells]
  | r :: l, j + 1, hj => by
    have := flat_row l j (by simpa using hj)
    rw [List.flatMap_cons, show (j + 1) * 4 = 4 + j * 4 by omega, <- List.drop_drop, List.drop_left' (show (curCells r).length = 4 from rfl), this]
    rfl
theorem flat_length : ∀ (l : List CurRow), (l.flatMap curCells).length = l.length * 4
  | [] => rfl
  | r :: l => by rw [List.flatMap_cons, List.length_append, flat_length l, List.length_cons]; simp [curCells]; omega
theorem impl_length : implTab.length = 20 := rfl
set_option maxRecDepth 100000 in
theorem index_cur {j : Nat} (hj : j < implTab.length) {K : Value -> Prop} (h : K (.agg ⟨curCells (implTab[j]'hj)⟩)) : indexS P T_20_impl_currency (.agg ⟨implTab.flatMap curCells⟩) (.int .i64 (j : Nat)) K := by
  have hu : P.underlying T_20_impl_currency = some (.array 20 T_impl_currency) := und_T_20_impl_currency
  have hc : P.cellsOf T_impl_currency = 4 := by kernel_rfl
  obtain ⟨fs, hs⟩ := und_T_impl_currency
  have hs : P.underlying T_impl_currency = some (.struct fs) := hs
  have hl := impl_length
  unfold indexS
  rw [hu]
  refine ⟨⟨by omega, by omega⟩, _, ?_, h⟩
  unfold partS
  rw [hs, hc]
  show Value.agg ⟨((implTab.flatMap curCells).drop (((j : Nat) : Int).toNat * 4)).take 4⟩ = _
  rw [Int.toNat_natCast, flat_row]
set_option maxRecDepth 100000 in
theorem impl_currencyOf_c {w : World} (ht : Tab w) (c : ByteArray) :
    Ret P n_impl_currencyOf [.string c] w fun v w' => v = .tuple #[.agg ⟨curCells (curFind implTab c)⟩, .bool (curKnown c)] /\ Ext w w' := by
  have hlen := impl_length
  refine impl_currencyOf_ret ?_
  unfold impl_currencyOf
  intro r w1 hn1
  have e1 := hn1.r_eq; have s1 := hn1.size
  refine ⟨_, loadsA (by rw [flat_length]; kernel_rfl) (ht.ext hn1.ext), ?_⟩
  refine ⟨fun i wr => ∃ j : Nat, i = j /\ j <= 20 /\ Ext w1 wr /\ curFind implTab c = curFind (implTab.drop j) c /\ curKnown c = curIn (implTab.drop j) c, fun i _ => 20 - i.toNat, ⟨0, rfl, by omega, Ext.refl _, rfl, rfl⟩, ?_⟩
  intro junk wr i ⟨j, hij, hj, hx, hf, hk⟩
  subst hij
  have lx := hx.le
  refine ifD (fun hlt => ?_) (fun hge => ?_)
  · have hjl : j < implTab.length := by omega
    rw [curFind_drop hjl] at hf
    rw [curIn_drop hjl] at hk
    apply index_cur hjl
    intro r1 w2 hn2
    obtain ⟨w3, st, hb3, y3⟩ := hn2.fill (P := P) (t := T_impl_currency) (xs := curCells (implTab[j]'hjl)) (by simp [curCells, Value.oneCell']) (by kernel_rfl) rfl
    refine ⟨w3, st, _, hb3.loadAt 0 rfl (by kernel_rfl) rfl, ifD (fun heq => ?_) (fun hne => ?_)⟩
    · have hf := hf.trans (if_pos heq)
      rw [decide_eq_true heq, Bool.true_or] at hk
      obtain ⟨w4, st4, hb4, ch, sz⟩ := (hn1.blk.ext (hx.trans y3)).storeA0 (P := P) (t := T_impl_currency) (xs := curCells (implTab[j]'hjl)) (by kernel_rfl) rfl (by simp [curCells, Value.oneCell'])
      refine ⟨_, _, _, _, hb3.loadA0 (by kernel_rfl), w4, st4, _, _, _, _, hb4.loadA0 (by kernel_rfl), ?_, ((hn1.ext.trans hx).trans y3).chg ch (by simp; omega)⟩
      rw [hf, hk]; rfl
    · have hf := hf.trans (if_neg hne)
      rw [decide_eq_false hne, Bool.false_or] at hk
      refine exW ⟨by omega, by omega⟩ ⟨⟨j + 1, by omega, by omega, hx.trans y3, hf, hk⟩, ?_⟩
      show 20 - ((j : Int) + 1).toNat < 20 - (j : Int).toNat
      omega
  · rw [List.drop_of_length_le (by omega)] at hf hk
    obtain ⟨w4, st4, hb4, ch, sz⟩ := (hn1.blk.ext hx).storeA0 (P := P) (t := T_impl_currency) (xs := curCells curZero) (by kernel_rfl) rfl (by simp [curCells, Value.oneCell'])
    refine ⟨w4, st4, _, _, _, _, hb4.loadA0 (by kernel_rfl), ?_, (hn1.ext.trans hx).chg ch (by simp; omega)⟩
    rw [hf, hk]; rfl
theorem impl_CurKnown_c {w : World} (ht : Tab w) (c : ByteArray) :
    Ret P n_impl_CurKnown [.string c] w fun v w' => v = .bool (curKnown c) /\ Ext w w' := by
  refine impl_CurKnown_ret ?_
  unfold impl_CurKnown
  refine Ret.at (impl_currencyOf_c ht c) ?_
  rintro v w1 ⟨hv, y1⟩
  subst hv
  refine ⟨_, _, _, _, _, rfl, ?_⟩
  intro r w2 hn2
  obtain ⟨w3, st, hb3, y3⟩ := hn2.fill (P := P) (t := T_impl_currency) (xs := curCells (curFind implTab c)) (by simp [curCells, Value.oneCell']) (by kernel_rfl) rfl
  exact ⟨w3, st, rfl, y1.trans y3⟩
theorem spec_length : specTab.length = 20 := rfl
end Go.Proofs.YtbgokfhcgcoipaaGreatDoor
namespace Go.Proofs.YtbgokfhcgcoipaaGreatDoor
open Go Go.Proofs.YtbgokfhcgcoipaaGreatDoor.Sx
theorem impl_isDigit_c (c : Int) (w : World) : Ret P n_impl_isDigit [.int .u8 c] w fun v w' => v = .bool (decide (48 <= c /\ c <= 57)) /\ w' = w := by
  refine impl_isDigit_ret ?_
  unfold impl_isDigit
  refine ifD (fun h => ⟨?_, rfl⟩) (fun h => ⟨?_, rfl⟩) <;> simp [h]
def moneyOk : List D0 -> Bool
  | [.str c, .bool b, .ints z] => curKnown c && intOk [.bool b, .ints z] && decide (z.length <= 4)
  | _ => false
theorem impl_MoneyOk_c {w : World} (ht : Tab w) {xs : List Value} {dx : List D0} (h : Reps w xs dx) (hc : dx.map D0.code = [.str, .bool, .ints]) :
    Ret P n_impl_MoneyOk [.agg ⟨xs⟩] w fun v w' => v = .bool (moneyOk dx) /\ Ext w w' := by
  obtain ⟨t0, a0, a1p, a1n, a1c, a1z, rfl, rfl, ha⟩ := open_Money h hc
  have hl := ha.1
  refine impl_MoneyOk_ret ?_
  unfold impl_MoneyOk
  intro r w1 hn1
  refine ⟨_, hn1.blk.loadAt 0 rfl (by kernel_rfl) rfl, ?_⟩
  refine Ret.at (impl_CurKnown_c (ht.ext hn1.ext) t0) ?_
  rintro v w2 ⟨hv, y2⟩
  subst hv
  have X := hn1.ext.trans y2
  have b := hn1.blk.ext y2
  refine ⟨_, rfl, fun e1 => ?_, fun e1 => ifF ⟨by simp only [moneyOk, e1, Bool.false_and], X⟩⟩
  refine ⟨_, _, _, _, b.loadAAt 1 [.bool a0, .slice a1p a1n a1c] rfl (by kernel_rfl) rfl, ?_⟩
  have hs : Reps w2 [.bool a0, .slice a1p a1n a1c] [.bool a0, .ints a1z] := ⟨rfl, ⟨_, _, _, rfl, ha.ext X⟩, trivial⟩
  refine Ret.at (impl_IntOk_c hs rfl) ?_
  rintro v w3 ⟨hv, y3⟩
  subst hv
  refine ⟨_, rfl, fun e2 => ⟨_, _, _, (b.ext y3).loadAt 2 rfl (by kernel_rfl) rfl, ?_, X.trans y3⟩, fun e2 => ⟨by simp only [moneyOk, e2, Bool.and_false, Bool.false_and], X.trans y3⟩⟩
  simp only [moneyOk, e1, e2, Bool.true_and]
  congr 1
  simp; omega
end Go.Proofs.YtbgokfhcgcoipaaGreatDoor
namespace Go.Proofs.YtbgokfhcgcoipaaGreatDoor
open Go Go.Proofs.YtbgokfhcgcoipaaGreatDoor.Sx
theorem moneyOk_int {c : ByteArray} {b : Bool} {z : List Int} (h : moneyOk [.str c, .bool b, .ints z] = true) : intOk [.bool b, .ints z] = true := by
  simp only [moneyOk, Bool.and_eq_true] at h
  exact h.1.2
end Go.Proofs.YtbgokfhcgcoipaaGreatDoor
namespace Go.Proofs.YtbgokfhcgcoipaaGreatDoor
open Go Go.Proofs.YtbgokfhcgcoipaaGreatDoor.Sx
theorem digs_len_le {n : Nat} (h : n < 1000000000000000000000000000000000000000000000000000000) : (digs n).length <= 6 := digs_len 6 (by omega)
theorem money_bound {c : ByteArray} {b : Bool} {z : List Int} (h : moneyOk [.str c, .bool b, .ints z] = true) : (ival [.bool b, .ints z]).natAbs <= 1000000000000000000000000000000000000 := by
  have hi := moneyOk_int h
  simp only [moneyOk, Bool.and_eq_true, decide_eq_true_eq] at h
  obtain ⟨_, _, _, h1, hc, _⟩ := intOk_enc hi
  simp only [List.cons.injEq, D0.bool.injEq, D0.ints.injEq, and_true] at h1
  obtain ⟨rfl, rfl⟩ := h1
  have hv := val_nonneg hc.1
  have hlt := val_lt hc.1
  have h6 : (1000000000 : Nat) ^ z.length <= 1000000000 ^ 4 := Nat.pow_le_pow_right (by decide) h.2
  have h6' := Int.ofNat_le.2 h6
  rw [Int.natCast_pow, Int.natCast_pow] at h6'
  have h7 : val z < (1000000000 : Int) ^ 4 := Int.lt_of_lt_of_le hlt h6'
  have h8 : ((1000000000 : Int) ^ 4) = 1000000000000000000000000000000000000 := by decide
  rw [h8] at h7
  cases b <;> simp only [ival, if_true, Bool.false_eq_true, if_false] <;> omega
end Go.Proofs.YtbgokfhcgcoipaaGreatDoor
namespace Go.Proofs.YtbgokfhcgcoipaaGreatDoor
open Go Go.Proofs.YtbgokfhcgcoipaaGreatDoor.Sx
def zeroMoney : List D0 := [.str ByteArray.empty, .bool false, .ints []]
def moneyMk (cur : ByteArray) (z : Int) : List D0 := if moneyOk (.str cur :: enc z) then .str cur :: enc z else zeroMoney
theorem moneyMk_code (cur : ByteArray) (z : Int) : (moneyMk cur z).map D0.code = [.str, .bool, .ints] := by unfold moneyMk; split <;> rfl
end Go.Proofs.YtbgokfhcgcoipaaGreatDoor
namespace Go.Proofs.YtbgokfhcgcoipaaGreatDoor
open Go Go.Proofs.YtbgokfhcgcoipaaGreatDoor.Sx
theorem impl_ratNeg_c {w : World} {xs : List Value} {dx : List D0} (h : Reps w xs dx) (hc : dx.map D0.code = [.bool, .ints, .ints]) (hok : ratOk dx = true) :
    Ret P n_impl_ratNeg [.agg ⟨xs⟩] w fun v w' => ∃ vs' f, v = .agg ⟨vs'⟩ /\ Owns w' w.heap.size vs' (rmk (-(ratNum dx)) (ratDen dx)) f /\ f.Nodup /\ Ext w w' := by
  have ok := (ratOk_enc hok).2
  obtain ⟨p1, n1, c1, p2, n2, c2, rfl, i1, i2, g1, g2, he⟩ := rat_parts h hc hok
  refine impl_ratNeg_ret ?_
  unfold impl_ratNeg
  intro r w1 hn1 r1 w2 hn2
  have D := Ext.drew w2
  have X := (hn1.ext.trans hn2.ext).trans D
  have k0 := hn1.blk.ext hn2.ext; have k1 := hn2.blk.ext D
  have e2 := hn2.r_eq; have s1 := hn1.size; have s2 := hn2.size; have lD := D.le
  refine ⟨_, _, _, _, fun W hW => (k0.ext (D.trans hW)).loadAAt 0 [.bool (decide (ratNum dx < 0)), .slice p1 n1 c1] rfl (by kernel_rfl) rfl, ?_⟩
  refine Ret.at (impl_intNeg_c (he.ext X) (by omega)) ?_
  rintro v w3 ⟨vs, f, hv, ho, nd, y3⟩
  subst hv
  obtain ⟨b0, bp, bn, bc, bz, rfl, hq, hbr⟩ := open_Signed ho.reps (enc_code _)
  refine ⟨_, _, _, _, rfl, y3, _, _, _, fun W hW => (k0.ext (D.trans hW)).loadAt 2 rfl (by kernel_rfl) rfl, ?_⟩
  refine Ret.at (impl_natCopy_c (i2.ext (X.trans y3)) (by omega)) ?_
  rintro v w4 ⟨p, c, hv, ho2, y4⟩
  subst hv
  have l3 := y3.le; have l4 := y4.le
  obtain ⟨w5, st, hb5, ch, sz⟩ := ((k1.ext y3).ext y4).storeA0 (P := P) (t := T_impl_Rat) (xs := [.bool b0, .slice bp bn bc, .slice p n2 c]) (by kernel_rfl) rfl (by simp [Value.oneCell'])
  have q1 := (ho.ext y4).chg1 ch (by omega)
  have q2 := (Owns.ints ho2).chg1 ch (by omega)
  refine ⟨_, _, _, rfl, w5, st, _, _, _, _, _, _, _, hb5.loadA0 (by kernel_rfl), _, f ++ (p.map (·.block)).toList, rfl, ?_, ?_, ((X.trans y3).trans y4).chg ch (by simp; omega)⟩
  · rw [rmk_enc]; exact Owns.append (q1.mono (by omega)) (q2.mono (by omega))
  exact nodup_append nd (nodup_opt p) (m := w3.heap.size) (fun k hk => (ho.lt k hk).2) (fun k hk => ((Owns.ints ho2).lt k hk).1)
end Go.Proofs.YtbgokfhcgcoipaaGreatDoor
namespace Go.Proofs.YtbgokfhcgcoipaaGreatDoor
open Go Go.Proofs.YtbgokfhcgcoipaaGreatDoor.Sx
theorem lt_of_len {x i : Nat} (h : (digs x).length <= i) : x < 1000000000 ^ i := by
  have h1 := val_lt (digs_limbs x)
  rw [val_digs] at h1
  have : ((x : Nat) : Int) < ((1000000000 ^ (digs x).length : Nat) : Int) := by simpa using h1
  exact Nat.lt_of_lt_of_le (Int.ofNat_lt.1 this) (Nat.pow_le_pow_right (by decide) h)
theorem sum_len {x y : Int} {i : Nat} (hx : (digs x.natAbs).length <= i) (hy : (digs y.natAbs).length <= i) : (digs (x + y).natAbs).length <= i + 1 := by
  apply digs_len
  have h1 := lt_of_len hx; have h2 := lt_of_len hy
  have h3 : (x + y).natAbs <= x.natAbs + y.natAbs := Int.natAbs_add_le x y
  rw [Nat.pow_succ]
  omega
theorem ratOk_neg {N : Int} {D : Nat} (h : ratOk (rmk N D) = true) : ratOk (rmk (-N) D) = true := by
  obtain ⟨_, h1, h2, h3, h4⟩ := ratOk_enc h
  rw [ratNum_rmk] at h2 h3
  rw [ratDen_rmk] at h1 h2 h4
  exact ratOk_rmk h1 (by rw [Int.natAbs_neg]; exact h2) (by rw [Int.natAbs_neg]; exact h3) h4
theorem cross_len {N : Int} {E : Nat} (hN : (digs N.natAbs).length <= 18) (hE : (digs E).length <= 18) : (digs (N * (E : Int)).natAbs).length <= 36 := by
  rw [Int.natAbs_mul, Int.natAbs_natCast]
  exact prod_len hN hE
theorem impl_Rat_num_n {w : World} {xs : List Value} {N : Int} {D E : Nat} {p : Option Addr} {m c : Nat} (h : Reps w xs (rmk N D)) (hok : ratOk (rmk N D) = true) (k : IntsR w p m c (digs E)) (hm : m <= 100) :
    Ret P n_impl_Rat_num [.agg ⟨xs⟩, .slice p m c] w fun v w' => ∃ vs f, v = .agg ⟨vs⟩ /\ Owns w' w.heap.size vs (enc (N * E)) f /\ f.Nodup /\ Ext w w' := by
  obtain ⟨p1, n1, c1, q1, m1, d1, rfl, i1, i2, li1, li2, he, hd1⟩ := rmk_open h hok
  have ei1 := i1.1; have ek := k.1
  refine impl_Rat_num_ret ?_
  unfold impl_Rat_num
  intro r w1 hn1 r1 w2 hn2
  have e1 := hn1.r_eq; have e2 := hn2.r_eq; have z1 := hn1.size; have z2 := hn2.size
  have D := Ext.drew w2
  have lD := D.le
  have X := (hn1.ext.trans hn2.ext).trans D
  have b0 := (hn1.blk.ext hn2.ext).ext D; have b1 := hn2.blk.ext D
  refine ⟨_, fun W hW => (b0.ext hW).loadAt 0 rfl (by kernel_rfl) rfl, _, _, _, fun W hW => (b0.ext hW).loadAt 1 rfl (by kernel_rfl) rfl, ?_⟩
  refine Ret.at (impl_natMul_c (i1.ext X) (k.ext X) (digs_limbs _) (digs_limbs _) (by omega) (by omega)) ?_
  rintro v w4 ⟨p4, n4, c4, hv, o4, y4⟩
  subst hv
  rw [val_mul] at o4
  refine ⟨_, _, _, rfl, y4, ?_⟩
  refine Ret.at (impl_signed_c (neg := decide (N < 0)) o4.ints.1) ?_
  rintro v w5 ⟨hv, y5⟩
  subst hv
  have sg : N * (E : Int) ≠ 0 -> decide (N < 0) = decide (N * (E : Int) < 0) := fun hh => by
    have := mul_sign hh
    rw [<- this, decide_eq_false (show ¬ (E : Int) < 0 by omega)]
    cases decide (N < 0) <;> rfl
  obtain ⟨W', st, ld, ow, xx, _, _⟩ := agg_end (t := T_impl_Signed) ((b1.ext y4).ext y5) ((X.trans y4).trans y5) (by omega) (own_int (o4.ext y5) (z := N * (E : Int)) (by rw [Int.natAbs_mul, Int.natAbs_natCast]) sg) (by kernel_rfl) rfl (by omega) (by omega)
  exact ⟨_, _, _, _, rfl, W', st, _, _, _, _, ld, _, _, rfl, ow, nodup_opt p4, xx⟩
theorem impl_RatAdd_n {w : World} {xs ys : List Value} {N1 N2 : Int} {D1 D2 : Nat} (h : Reps w xs (rmk N1 D1)) (g : Reps w ys (rmk N2 D2)) (hok : ratOk (rmk N1 D1) = true) (gok : ratOk (rmk N2 D2) = true) :
    Ret P n_impl_RatAdd [.agg ⟨xs⟩, .agg ⟨ys⟩] w fun v w' => ∃ vs f, v = .tuple #[.agg ⟨vs⟩, .bool (redOk (N1 * D2 + N2 * D1) (D1 * D2))] /\ Owns w' w.heap.size vs (redR (N1 * D2 + N2 * D1) (D1 * D2)) f /\ f.Nodup /\ Ext w w' := by
  have hr := h; have gr := g
  obtain ⟨p1, n1, c1, q1, m1, d1, rfl, i1, i2, li1, li2, he, hd1⟩ := rmk_open h hok
  obtain ⟨p2, n2, c2, q2, m2, d2, rfl, j1, j2, lj1, lj2, ke, hd2⟩ := rmk_open g gok
  have ei1 := i1.1; have ei2 := i2.1; have ej1 := j1.1; have ej2 := j2.1
  have pN := prod_len (x := N1.natAbs) (y := N2.natAbs) (i := 18) (j := 18) (by omega) (by omega)
  have pD := prod_len (x := D1) (y := D2) (i := 18) (j := 18) (by omega) (by omega)
  refine impl_RatAdd_ret ?_
  unfold impl_RatAdd
  intro r w1 hn1 r1 w2 hn2 r2 w3 hn3
  have e1 := hn1.r_eq; have e2 := hn2.r_eq; have e3 := hn3.r_eq; have z1 := hn1.size; have z2 := hn2.size; have z3 := hn3.size
  have X := (hn1.ext.trans hn2.ext).trans hn3.ext
  have b0 := (hn1.blk.ext hn2.ext).ext hn3.ext; have b1 := hn2.blk.ext hn3.ext; have b2 := hn3.blk
  refine ⟨_, _, _, _, _, _, _, b0.loadA0 (by kernel_rfl), _, _, _, _, _, _, _, b1.loadA0 (by kernel_rfl), ?_⟩
  refine Ret.at (impl_ratsOk_c (hr.ext X) (gr.ext X) hok gok) ?_
  rintro v w4 ⟨hv, y4⟩
  subst hv
  refine ⟨_, rfl, ifN (fun hh => absurd hh (by simp)) (fun _ => ?_)⟩
  have D := Ext.drew w4
  have Y := y4.trans D
  have X4 := X.trans Y
  have lY := Y.le
  have b0 := b0.ext Y; have b1 := b1.ext Y; have b2 := b2.ext Y
  have D' := Ext.drew w4.drew
  have X5 := X4.trans D'
  have lD' := D'.le
  have b0' := b0.ext D'; have b1' := b1.ext D'; have b2' := b2.ext D'
  refine ⟨_, _, _, _, _, _, _, fun W hW => (b0.ext hW).loadA0 (by kernel_rfl), _, _, _, _, _, _, _, fun W hW => (b1.ext hW).loadA0 (by kernel_rfl), _, _, _, fun W hW => (b1'.ext hW).loadAt 2 rfl (by kernel_rfl) rfl, _, _, _, rfl, by kernel_rfl, ?_⟩
  refine Calls.mono (impl_Rat_num_n (hr.ext X5) hok (j2.ext X5) (by omega)) ?_
  rintro e w5 ⟨v, he5, vs5, f5, hv, ho5, _, y5⟩
  subst hv
  obtain ⟨s0, sp, sn, sc, sz, rfl, _, _⟩ := open_Signed ho5.reps (enc_code _)
  refine ⟨_, _, _, _, he5, y5, _, _, _, fun W hW => (b0'.ext hW).loadAt 2 rfl (by kernel_rfl) rfl, _, _, _, rfl, by kernel_rfl, ?_⟩
  refine Calls.mono (impl_Rat_num_n (gr.ext (X5.trans y5)) gok (i2.ext (X5.trans y5)) (by omega)) ?_
  rintro e w6 ⟨v, he6, vs6, f6, hv, ho6, _, y6⟩
  subst hv
  obtain ⟨u0, up, un, uc, uz, rfl, _, _⟩ := open_Signed ho6.reps (enc_code _)
  refine ⟨_, _, _, _, he6, y6, ?_⟩
  have t1 := cross_len (N := N1) (E := D2) (by omega) (by omega)
  have t2 := cross_len (N := N2) (E := D1) (by omega) (by omega)
  have t3 := sum_len t1 t2
  refine Ret.at (impl_intAdd_c (ho5.reps.ext y6) ho6.reps (by omega) (by omega)) ?_
  rintro v w7 ⟨p7, n7, c7, hv, o7, y7⟩
  subst hv
  refine ⟨_, _, _, _, rfl, y7, _, _, _, fun W hW => (b0'.ext hW).loadAt 2 rfl (by kernel_rfl) rfl, _, _, _, fun W hW => (b1'.ext hW).loadAt 2 rfl (by kernel_rfl) rfl, ?_⟩
  have Y7 := (y5.trans y6).trans y7
  refine Ret.at (impl_natMul_c (i2.ext (X5.trans Y7)) (j2.ext (X5.trans Y7)) (digs_limbs _) (digs_limbs _) (by omega) (by omega)) ?_
  rintro v w8 ⟨p8, n8, c8, hv, o8, y8⟩
  subst hv
  rw [val_mul] at o8
  have l8 := o8.ints.1
  have lY7 := Y7.le; have ly8 := y8.le
  refine ⟨_, _, _, rfl, ?_⟩
  have hs : Reps w8 [.bool (decide (N1 * (D2 : Int) + N2 * (D1 : Int) < 0)), .slice p7 n7 c7] (enc (N1 * D2 + N2 * D1)) := ⟨rfl, ⟨_, _, _, rfl, o7.ints.ext y8⟩, trivial⟩
  refine Ret.at (impl_reduce_c hs o8.ints (Nat.mul_pos hd1 hd2) (by omega) (by omega)) ?_
  rintro v w99 ⟨vs9, f9, hv, ho9, nd9, y99⟩
  subst hv
  obtain ⟨zb, zp, zn, zc, zz, zp2, zn2, zc2, zz2, rfl, _, _, _⟩ := open_Rat ho9.reps (redR_code _ _)
  obtain ⟨W', st', ld', ow', xx', _, _⟩ := agg_end (t := T_impl_Rat) (((b2'.ext Y7).ext y8).ext y99) (((X5.trans Y7).trans y8).trans y99) (by omega) ho9 (by kernel_rfl) rfl (by omega) (by omega)
  exact ⟨_, _, _, _, _, _, _, _, rfl, W', st', _, _, _, _, _, _, _, ld', _, f9, rfl, ow', nd9, xx'⟩
  
theorem impl_RatSub_n {w : World} {xs ys : List Value} {N1 N2 : Int} {D1 D2 : Nat} (h : Reps w xs (rmk N1 D1)) (g : Reps w ys (rmk N2 D2)) (hok : ratOk (rmk N1 D1) = true) (gok : ratOk (rmk N2 D2) = true) :
    Ret P n_impl_RatSub [.agg ⟨xs⟩, .agg ⟨ys⟩] w fun v w' => ∃ vs f, v = .tuple #[.agg ⟨vs⟩, .bool (redOk (N1 * D2 + -N2 * D1) (D1 * D2))] /\ Owns w' w.heap.size vs (redR (N1 * D2 + -N2 * D1) (D1 * D2)) f /\ f.Nodup /\ Ext w w' := by
  have hr := h; have gr := g
  obtain ⟨p1, n1, c1, q1, m1, d1, rfl, i1, i2, li1, li2, he, hd1⟩ := rmk_open h hok
  obtain ⟨p2, n2, c2, q2, m2, d2, rfl, j1, j2, lj1, lj2, ke, hd2⟩ := rmk_open g gok
  have ei1 := i1.1; have ei2 := i2.1; have ej1 := j1.1; have ej2 := j2.1
  have pN := prod_len (x := N1.natAbs) (y := N2.natAbs) (i := 18) (j := 18) (by omega) (by omega)
  have pD := prod_len (x := D1) (y := D2) (i := 18) (j := 18) (by omega) (by omega)
  refine impl_RatSub_ret ?_
  unfold impl_RatSub
  intro r w1 hn1 r1 w2 hn2 r2 w3 hn3
  have e1 := hn1.r_eq; have e2 := hn2.r_eq; have e3 := hn3.r_eq; have z1 := hn1.size; have z2 := hn2.size; have z3 := hn3.size
  have X := (hn1.ext.trans hn2.ext).trans hn3.ext
  have b0 := (hn1.blk.ext hn2.ext).ext hn3.ext; have b1 := hn2.blk.ext hn3.ext; have b2 := hn3.blk
  refine ⟨_, _, _, _, _, _, _, b0.loadA0 (by kernel_rfl), _, _, _, _, _, _, _, b1.loadA0 (by kernel_rfl), ?_⟩
  refine Ret.at (impl_ratsOk_c (hr.ext X) (gr.ext X) hok gok) ?_
  rintro v w4 ⟨hv, y4⟩
  subst hv
  refine ⟨_, rfl, ifN (fun hh => absurd hh (by simp)) (fun _ => ?_)⟩
  have D := Ext.drew w4
  have Y := y4.trans D
  have X4 := X.trans Y
  have lY := Y.le
  have b0 := b0.ext Y; have b1 := b1.ext Y; have b2 := b2.ext Y
  refine ⟨_, _, _, _, _, _, _, fun W hW => (b0.ext hW).loadA0 (by kernel_rfl), _, _, _, _, _, _, _, fun W hW => (b1.ext hW).loadA0 (by kernel_rfl), ?_⟩
  refine Ret.at (impl_ratNeg_c (gr.ext X4) (rmk_code _ _) gok) ?_
  rintro v w5 ⟨vs5, f5, hv, ho5, _, y5⟩
  subst hv
  rw [ratNum_rmk, ratDen_rmk] at ho5
  have hr5 := ho5.reps
  obtain ⟨s0, sp, sn, sc, sz, sp2, sn2, sc2, sz2, rfl, _, _, _⟩ := open_Rat hr5 (rmk_code _ _)
  have l5 := y5.le
  refine ⟨_, _, _, _, _, _, _, rfl, y5, ?_⟩
  refine Ret.at (impl_RatAdd_n (hr.ext (X4.trans y5)) hr5 hok (ratOk_neg gok)) ?_
  rintro v w99 ⟨vs9, f9, hv, ho9, nd9, y99⟩
  subst hv
  obtain ⟨zb, zp, zn, zc, zz, zp2, zn2, zc2, zz2, rfl, _, _, _⟩ := open_Rat ho9.reps (redR_code _ _)
  obtain ⟨W', st', ld', ow', xx', _, _⟩ := agg_end (t := T_impl_Rat) ((b2.ext y5).ext y99) ((X4.trans y5).trans y99) (by omega) ho9 (by kernel_rfl) rfl (by omega) (by omega)
  exact ⟨_, _, _, _, _, _, _, _, rfl, W', st', _, _, _, _, _, _, _, ld', _, f9, rfl, ow', nd9, xx'⟩
  
end Go.Proofs.YtbgokfhcgcoipaaGreatDoor
namespace Go.Proofs.YtbgokfhcgcoipaaGreatDoor
open Go Go.Proofs.YtbgokfhcgcoipaaGreatDoor.Sx
theorem digs_one_r {W : World} {r : Nat} (hb : Blk W r T_int [.int .i64 1]) : IntsR W (some ⟨r, 0, none⟩) 1 1 (digs 1) := by
  rw [digs_one]
  exact ⟨rfl, Nat.le_refl _, by omega, fun _ => ⟨_, 0, rfl, hb.seg⟩⟩
theorem val_add' (m k : Nat) : (val (digs m) + val (digs k)).toNat = m + k := by rw [val_digs, val_digs, <- Int.natCast_add, Int.toNat_natCast]
theorem odd_even (q : Nat) : (!(decide (q % 2 = 0))) = decide (q % 2 = 1) := by
  rcases Nat.mod_two_eq_zero_or_one q with h | h <;> simp [h]
theorem impl_NatEven_n {w : World} {p : Option Addr} {n c q : Nat} (h : IntsR w p n c (digs q)) (hn : n <= 50) :
    Ret P n_impl_NatEven [.slice p n c] w fun v w' => v = .bool (decide (q % 2 = 0)) /\ Ext w w' := by
  have hl := h.1
  refine impl_NatEven_ret ?_
  unfold impl_NatEven
  refine Ret.at (impl_NatOk_c h) ?_
  rintro v w1 ⟨hv, y1⟩
  subst hv
  rw [natOk_spec.2 ⟨digs_canon q, by omega⟩]
  refine ⟨_, rfl, ifT (ifD (fun h0 => ⟨?_, y1⟩) (fun h0 => ?_))⟩
  · have : q % 2 = 0 := even_head.1 (.inl (by omega))
    rw [decide_eq_true this]
  · obtain ⟨ad, hp', hld⟩ := (h.ext y1).at (P := P) (t := T_int) (by kernel_rfl) (k := 0) (by omega)
    subst hp'
    have hx := digs_limbs q _ (List.getElem_mem (show 0 < (digs q).length by omega))
    refine ⟨⟨by omega, by omega⟩, _, by simpa using hld, by decide, _, rfl, ?_, y1⟩
    rw [Int.tmod_eq_emod_of_nonneg hx.1]
    have e : (digs q)[0]'(by omega) = (digs q).getD 0 0 := by rw [List.getD_eq_getElem?_getD, List.getElem?_eq_getElem (by omega)]; rfl
    rw [e]
    exact congrArg Value.bool (decide_eq_decide.2 ⟨fun hh => even_head.1 (.inr hh), fun hh => (even_head.2 hh).resolve_left (by omega)⟩)
theorem impl_roundModes_1_n (neg : Bool) (half : Int) (odd : Bool) (w : World) : Ret P n_impl_roundModes_1 [.bool neg, .int .i64 half, .bool odd] w fun v w' => v = .bool (modeAway 0 neg half odd) /\ w' = w := by
  refine impl_roundModes_1_ret ?_
  unfold impl_roundModes_1
  exact ⟨rfl, rfl⟩
theorem impl_roundModes_2_n (neg : Bool) (half : Int) (odd : Bool) (w : World) : Ret P n_impl_roundModes_2 [.bool neg, .int .i64 half, .bool odd] w fun v w' => v = .bool (modeAway 1 neg half odd) /\ w' = w := by
  refine impl_roundModes_2_ret ?_
  unfold impl_roundModes_2
  exact ⟨rfl, rfl⟩
theorem impl_roundModes_3_n (neg : Bool) (half : Int) (odd : Bool) (w : World) : Ret P n_impl_roundModes_3 [.bool neg, .int .i64 half, .bool odd] w fun v w' => v = .bool (modeAway 2 neg half odd) /\ w' = w := by
  refine impl_roundModes_3_ret ?_
  unfold impl_roundModes_3
  exact ⟨rfl, rfl⟩
theorem impl_roundModes_4_n (neg : Bool) (half : Int) (odd : Bool) (w : World) : Ret P n_impl_roundModes_4 [.bool neg, .int .i64 half, .bool odd] w fun v w' => v = .bool (modeAway 3 neg half odd) /\ w' = w := by
  refine impl_roundModes_4_ret ?_
  unfold impl_roundModes_4
  exact ⟨rfl, rfl⟩
theorem impl_roundModes_5_n (neg : Bool) (half : Int) (odd : Bool) (w : World) : Ret P n_impl_roundModes_5 [.bool neg, .int .i64 half, .bool odd] w fun v w' => v = .bool (modeAway 4 neg half odd) /\ w' = w := by
  refine impl_roundModes_5_ret ?_
  unfold impl_roundModes_5
  exact ⟨rfl, rfl⟩
theorem impl_roundModes_6_n (neg : Bool) (half : Int) (odd : Bool) (w : World) : Ret P n_impl_roundModes_6 [.bool neg, .int .i64 half, .bool odd] w fun v w' => v = .bool (modeAway 5 neg half odd) /\ w' = w := by
  refine impl_roundModes_6_ret ?_
  unfold impl_roundModes_6
  exact ⟨rfl, rfl⟩
theorem impl_roundModes_7_n (neg : Bool) (half : Int) (odd : Bool) (w : World) : Ret P n_impl_roundModes_7 [.bool neg, .int .i64 half, .bool odd] w fun v w' => v = .bool (modeAway 6 neg half odd) /\ w' = w := by
  refine impl_roundModes_7_ret ?_
  unfold impl_roundModes_7
  refine ifD (fun h => ⟨?_, rfl⟩) (fun h => ifD (fun h0 => ⟨?_, rfl⟩) (fun h0 => ⟨?_, rfl⟩))
  · simp [modeAway, h]
  · simp [modeAway, h0]
  · simp [modeAway, h, h0]
def modeCells : List Value := [.string (S [100, 111, 119, 110]), .func (.func n_impl_roundModes_1) #[] #[], .string (S [117, 112]), .func (.func n_impl_roundModes_2) #[] #[], .string (S [102, 108, 111, 111, 114]), .func (.func n_impl_roundModes_3) #[] #[], .string (S [99, 101, 105, 108]), .func (.func n_impl_roundModes_4) #[] #[], .string (S [104, 97, 108, 102, 100, 111, 119, 110]), .func (.func n_impl_roundModes_5) #[] #[], .string (S [104, 97, 108, 102, 117, 112]), .func (.func n_impl_roundModes_6) #[] #[], .string (S [104, 97, 108, 102, 101, 118, 101, 110]), .func (.func n_impl_roundModes_7) #[] #[]]
theorem impl_roundModes_n (w : World) : Ret P n_impl_roundModes [] w fun v w' => v = .agg ⟨modeCells⟩ /\ Ext w w' := by
  refine impl_roundModes_ret ?_
  unfold impl_roundModes
  intro r w1 hn1
  obtain ⟨w2, st, hb2, y2⟩ := hn1.fill (P := P) (t := T_7_impl_roundMode) (xs := modeCells) (by simp [modeCells, Value.oneCell']) (by kernel_rfl) rfl
  exact ⟨w2, st, _, _, _, _, _, _, _, _, _, _, _, _, _, _, hb2.loadA0 (by kernel_rfl), rfl, y2⟩
theorem mode_call {m : Int} (h0 : 0 <= m) (h1 : m <= 6) (neg : Bool) (half : Int) (odd : Bool) : ∃ fl : Value, (∀ K : Value -> Prop, K fl -> indexS P T_7_impl_roundMode (.agg ⟨modeCells⟩) (.int .i64 m) fun el => fieldS P T_impl_roundMode el 1 fun f => K f) /\
    ∀ (w : World) (Q : Ending -> World -> Prop), Q (.returned (.bool (modeAway m neg half odd))) w -> CallW P fl [.bool neg, .int .i64 half, .bool odd] w Q := by
  have hm : m = 0 ∨ m = 1 ∨ m = 2 ∨ m = 3 ∨ m = 4 ∨ m = 5 ∨ m = 6 := by omega
  rcases hm with rfl | rfl | rfl | rfl | rfl | rfl | rfl
  · refine ⟨.func (.func n_impl_roundModes_1) #[] #[], fun K hK => ?_, fun w Q hQ => ?_⟩
    · have e : (indexS P T_7_impl_roundMode (.agg ⟨modeCells⟩) (.int .i64 0) fun el => fieldS P T_impl_roundMode el 1 fun f => K f) = (((0 : Int) <= 0 /\ (0 : Int) < (7 : Nat)) /\ ∃ v, (Value.agg #[modeCells.getD 0 .nilFunc, modeCells.getD 1 .nilFunc] = v) /\ fieldS P T_impl_roundMode v 1 fun f => K f) := by kernel_rfl
      rw [e]
      refine ⟨⟨by omega, by omega⟩, _, rfl, ?_⟩
      have e2 : (fieldS P T_impl_roundMode (Value.agg #[modeCells.getD 0 .nilFunc, modeCells.getD 1 .nilFunc]) 1 fun f => K f) = K (modeCells.getD 1 .nilFunc) := by kernel_rfl
      rw [e2]
      exact hK
    · refine ⟨_, [], [], rfl, by kernel_rfl, Calls.mono (impl_roundModes_1_n neg half odd w) ?_⟩
      rintro e w' ⟨v, he, hv, hw⟩
      subst he; subst hv; subst hw
      exact hQ
  · refine ⟨.func (.func n_impl_roundModes_2) #[] #[], fun K hK => ?_, fun w Q hQ => ?_⟩
    · have e : (indexS P T_7_impl_roundMode (.agg ⟨modeCells⟩) (.int .i64 1) fun el => fieldS P T_impl_roundMode el 1 fun f => K f) = (((0 : Int) <= 1 /\ (1 : Int) < (7 : Nat)) /\ ∃ v, (Value.agg #[modeCells.getD 2 .nilFunc, modeCells.getD 3 .nilFunc] = v) /\ fieldS P T_impl_roundMode v 1 fun f => K f) := by kernel_rfl
      rw [e]
      refine ⟨⟨by omega, by omega⟩, _, rfl, ?_⟩
      have e2 : (fieldS P T_impl_roundMode (Value.agg #[modeCells.getD 2 .nilFunc, modeCells.getD 3 .nilFunc]) 1 fun f => K f) = K (modeCells.getD 3 .nilFunc) := by kernel_rfl
      rw [e2]
      exact hK
    · refine ⟨_, [], [], rfl, by kernel_rfl, Calls.mono (impl_roundModes_2_n neg half odd w) ?_⟩
      rintro e w' ⟨v, he, hv, hw⟩
      subst he; subst hv; subst hw
      exact hQ
  · refine ⟨.func (.func n_impl_roundModes_3) #[] #[], fun K hK => ?_, fun w Q hQ => ?_⟩
    · have e : (indexS P T_7_impl_roundMode (.agg ⟨modeCells⟩) (.int .i64 2) fun el => fieldS P T_impl_roundMode el 1 fun f => K f) = (((0 : Int) <= 2 /\ (2 : Int) < (7 : Nat)) /\ ∃ v, (Value.agg #[modeCells.getD 4 .nilFunc, modeCells.getD 5 .nilFunc] = v) /\ fieldS P T_impl_roundMode v 1 fun f => K f) := by kernel_rfl
      rw [e]
      refine ⟨⟨by omega, by omega⟩, _, rfl, ?_⟩
      have e2 : (fieldS P T_impl_roundMode (Value.agg #[modeCells.getD 4 .nilFunc, modeCells.getD 5 .nilFunc]) 1 fun f => K f) = K (modeCells.getD 5 .nilFunc) := by kernel_rfl
      rw [e2]
      exact hK
    · refine ⟨_, [], [], rfl, by kernel_rfl, Calls.mono (impl_roundModes_3_n neg half odd w) ?_⟩
      rintro e w' ⟨v, he, hv, hw⟩
      subst he; subst hv; subst hw
      exact hQ
  · refine ⟨.func (.func n_impl_roundModes_4) #[] #[], fun K hK => ?_, fun w Q hQ => ?_⟩
    · have e : (indexS P T_7_impl_roundMode (.agg ⟨modeCells⟩) (.int .i64 3) fun el => fieldS P T_impl_roundMode el 1 fun f => K f) = (((0 : Int) <= 3 /\ (3 : Int) < (7 : Nat)) /\ ∃ v, (Value.agg #[modeCells.getD 6 .nilFunc, modeCells.getD 7 .nilFunc] = v) /\ fieldS P T_impl_roundMode v 1 fun f => K f) := by kernel_rfl
      rw [e]
      refine ⟨⟨by omega, by omega⟩, _, rfl, ?_⟩
      have e2 : (fieldS P T_impl_roundMode (Value.agg #[modeCells.getD 6 .nilFunc, modeCells.getD 7 .nilFunc]) 1 fun f => K f) = K (modeCells.getD 7 .nilFunc) := by kernel_rfl
      rw [e2]
      exact hK
    · refine ⟨_, [], [], rfl, by kernel_rfl, Calls.mono (impl_roundModes_4_n neg half odd w) ?_⟩
      rintro e w' ⟨v, he, hv, hw⟩
      subst he; subst hv; subst hw
      exact hQ
  · refine ⟨.func (.func n_impl_roundModes_5) #[] #[], fun K hK => ?_, fun w Q hQ => ?_⟩
    · have e : (indexS P T_7_impl_roundMode (.agg ⟨modeCells⟩) (.int .i64 4) fun el => fieldS P T_impl_roundMode el 1 fun f => K f) = (((0 : Int) <= 4 /\ (4 : Int) < (7 : Nat)) /\ ∃ v, (Value.agg #[modeCells.getD 8 .nilFunc, modeCells.getD 9 .nilFunc] = v) /\ fieldS P T_impl_roundMode v 1 fun f => K f) := by kernel_rfl
      rw [e]
      refine ⟨⟨by omega, by omega⟩, _, rfl, ?_⟩
      have e2 : (fieldS P T_impl_roundMode (Value.agg #[modeCells.getD 8 .nilFunc, modeCells.getD 9 .nilFunc]) 1 fun f => K f) = K (modeCells.getD 9 .nilFunc) := by kernel_rfl
      rw [e2]
      exact hK
    · refine ⟨_, [], [], rfl, by kernel_rfl, Calls.mono (impl_roundModes_5_n neg half odd w) ?_⟩
      rintro e w' ⟨v, he, hv, hw⟩
      subst he; subst hv; subst hw
      exact hQ
  · refine ⟨.func (.func n_impl_roundModes_6) #[] #[], fun K hK => ?_, fun w Q hQ => ?_⟩
    · have e : (indexS P T_7_impl_roundMode (.agg ⟨modeCells⟩) (.int .i64 5) fun el => fieldS P T_impl_roundMode el 1 fun f => K f) = (((0 : Int) <= 5 /\ (5 : Int) < (7 : Nat)) /\ ∃ v, (Value.agg #[modeCells.getD 10 .nilFunc, modeCells.getD 11 .nilFunc] = v) /\ fieldS P T_impl_roundMode v 1 fun f => K f) := by kernel_rfl
      rw [e]
      refine ⟨⟨by omega, by omega⟩, _, rfl, ?_⟩
      have e2 : (fieldS P T_impl_roundMode (Value.agg #[modeCells.getD 10 .nilFunc, modeCells.getD 11 .nilFunc]) 1 fun f => K f) = K (modeCells.getD 11 .nilFunc) := by kernel_rfl
      rw [e2]
      exact hK
    · refine ⟨_, [], [], rfl, by kernel_rfl, Calls.mono (impl_roundModes_6_n neg half odd w) ?_⟩
      rintro e w' ⟨v, he, hv, hw⟩
      subst he; subst hv; subst hw
      exact hQ
  · refine ⟨.func (.func n_impl_roundModes_7) #[] #[], fun K hK => ?_, fun w Q hQ => ?_⟩
    · have e : (indexS P T_7_impl_roundMode (.agg ⟨modeCells⟩) (.int .i64 6) fun el => fieldS P T_impl_roundMode el 1 fun f => K f) = (((0 : Int) <= 6 /\ (6 : Int) < (7 : Nat)) /\ ∃ v, (Value.agg #[modeCells.getD 12 .nilFunc, modeCells.getD 13 .nilFunc] = v) /\ fieldS P T_impl_roundMode v 1 fun f => K f) := by kernel_rfl
      rw [e]
      refine ⟨⟨by omega, by omega⟩, _, rfl, ?_⟩
      have e2 : (fieldS P T_impl_roundMode (Value.agg #[modeCells.getD 12 .nilFunc, modeCells.getD 13 .nilFunc]) 1 fun f => K f) = K (modeCells.getD 13 .nilFunc) := by kernel_rfl
      rw [e2]
      exact hK
    · refine ⟨_, [], [], rfl, by kernel_rfl, Calls.mono (impl_roundModes_7_n neg half odd w) ?_⟩
      rintro e w' ⟨v, he, hv, hw⟩
      subst he; subst hv; subst hw
      exact hQ
end Go.Proofs.YtbgokfhcgcoipaaGreatDoor
namespace Go.Proofs.YtbgokfhcgcoipaaGreatDoor
open Go Go.Proofs.YtbgokfhcgcoipaaGreatDoor.Sx
def modeOk (m : Int) : Bool := decide (0 <= m /\ m <= 6)
theorem rround_sign {n : Int} {d : Nat} {m : Int} (h : rround n d m ≠ 0) : decide (n < 0) = decide (rround n d m < 0) := by
  have e : rround n d m = if n < 0 then -((roundM n d m : Nat) : Int) else ((roundM n d m : Nat) : Int) := rfl
  by_cases hn : n < 0
  · rw [if_pos hn] at e
    rw [decide_eq_true hn, decide_eq_true (show rround n d m < 0 by omega)]
  · rw [if_neg hn] at e
    rw [decide_eq_false hn, decide_eq_false (show ¬ rround n d m < 0 by omega)]
theorem roundM_len {n : Int} {d : Nat} {m : Int} {k : Nat} (hd : 0 < d) (h : (digs n.natAbs).length <= k) : (digs (roundM n d m)).length <= k + 1 := by
  apply digs_len
  have h1 := lt_of_len h
  have h2 := roundM_le n d m
  have h3 := Nat.div_le_self n.natAbs d
  have h4 : 0 < 1000000000 ^ k := Nat.pow_pos (by decide)
  rw [Nat.pow_succ]
  omega
theorem impl_isMode_c (m : Int) (w : World) : Ret P n_impl_isMode [.int .i64 m] w fun v w' => v = .bool (modeOk m) /\ w' = w := by
  refine impl_isMode_ret ?_
  unfold impl_isMode
  refine ifD (fun h => ⟨?_, rfl⟩) (fun h => ⟨?_, rfl⟩)
  · exact congrArg Value.bool (decide_eq_decide.2 (by omega))
  · rw [modeOk, decide_eq_false (by omega)]
set_option maxRecDepth 100000 in
theorem impl_roundQuotient_n {w : World} {xs : List Value} {x : Int} {d : Nat} {p : Option Addr} {n c : Nat} {m : Int} (h : Reps w xs (enc x)) (k : IntsR w p n c (digs d)) (hd : 0 < d) (hx : (digs x.natAbs).length <= 40) (hn : n <= 40) (hm : modeOk m = true) :
    Ret P n_impl_roundQuotient [.agg ⟨xs⟩, .slice p n c, .int .i64 m] w fun v w' => ∃ vs f, v = .agg ⟨vs⟩ /\ Owns w' w.heap.size vs (enc (rround x d m)) f /\ f.Nodup /\ Ext w w' := by
  have hm' := of_decide_eq_true hm
  obtain ⟨a0, ap, an, ac, az, rfl, hda, ha⟩ := open_Signed h (enc_code _)
  simp only [enc, List.cons.injEq, D0.bool.injEq, D0.ints.injEq, and_true] at hda
  obtain ⟨rfl, rfl⟩ := hda
  have hla := ha.1; have hlk := k.1
  have hd0 := digs_pos_len.2 (show d ≠ 0 by omega)
  refine impl_roundQuotient_ret ?_
  unfold impl_roundQuotient
  intro r w1 hn1 r1 w2 hn2
  have e1 := hn1.r_eq; have e2 := hn2.r_eq; have z1 := hn1.size; have z2 := hn2.size
  have X := hn1.ext.trans hn2.ext
  have b0 := hn1.blk.ext hn2.ext; have b1 := hn2.blk
  have fin : ∀ W p' n' c' M, Ext w2 W -> Own W w2.heap.size T_int 1 p' n' c' ((digs M).map (Value.int .i64)) -> M = roundM x d m -> impl_roundQuotient_j0 r r1 p' n' c' W fun v w' => ∃ vs f, v = .agg ⟨vs⟩ /\ Owns w' w.heap.size vs (enc (rround x d m)) f /\ f.Nodup /\ Ext w w' := by
    intro W p' n' c' M hW hO hM
    unfold impl_roundQuotient_j0
    refine ⟨_, (b0.ext hW).loadAt 0 rfl (by kernel_rfl) rfl, ?_⟩
    refine Ret.at (impl_signed_c (neg := decide (x < 0)) hO.ints.1) ?_
    rintro v w5 ⟨hv, y5⟩
    subst hv
    obtain ⟨W', st, ld, ow, xx, _, _⟩ := agg_end (t := T_impl_Signed) (b1.ext (hW.trans y5)) (X.trans (hW.trans y5)) (by omega) (own_int (hO.ext y5) (z := rround x d m) (by rw [rround_abs]; exact hM) rround_sign) (by kernel_rfl) rfl (by omega) (by omega)
    exact ⟨_, _, _, _, rfl, W', st, _, _, _, _, ld, _, _, rfl, ow, nodup_opt p', xx⟩
  refine ⟨_, _, _, b0.loadAt 1 rfl (by kernel_rfl) rfl, ?_⟩
  refine Ret.at (impl_natDiv_c (ha.ext X) (k.ext X) (digs_canon _) (digs_canon _) (by omega) (by omega) (by omega)) ?_
  rintro v w3 ⟨p3, n3, c3, p4, n4, c4, hv, oq, or', _, y3⟩
  subst hv
  rw [val_div] at oq
  rw [val_mod] at or'
  have lq := oq.ints.1; have lr := or'.ints.1
  have D := Ext.drew w3
  have Y := y3.trans D
  have q50 : n3 <= 40 := by have := digs_mono_len (Nat.div_le_self x.natAbs d); omega
  have r50 : n4 <= 40 := by have := digs_mono_len (Nat.le_of_lt (Nat.mod_lt x.natAbs hd)); omega
  refine ⟨_, _, _, _, _, _, rfl, ifD (fun hrem => ?_) (fun hno => ifF (fin _ _ _ _ _ Y (oq.ext D) ?_))⟩
  · have hne : x.natAbs % d ≠ 0 := digs_pos_len.1 (by omega)
    obtain ⟨fl, hix, hcall⟩ := mode_call hm'.1 hm'.2 (decide (x < 0)) (cmpL (digs (x.natAbs % d + x.natAbs % d)) (digs d)) (decide (x.natAbs / d % 2 = 1))
    refine Ret.at (impl_roundModes_n _) ?_
    rintro v w4 ⟨hv, y4⟩
    subst hv
    refine ⟨_, _, _, _, _, _, _, _, _, _, _, _, _, _, rfl, y4, hix _ ⟨_, fun W hW => ((b0.ext Y).ext hW).loadAt 0 rfl (by kernel_rfl) rfl, ?_⟩⟩
    refine Ret.at (impl_natAdd_c ((or'.ext D).ext y4).ints ((or'.ext D).ext y4).ints (digs_limbs _) (digs_limbs _) (by omega) (by omega)) ?_
    rintro v w5 ⟨p5, n5, c5, hv, o5, y5⟩
    subst hv
    rw [val_add'] at o5
    refine ⟨_, _, _, rfl, y5, ?_⟩
    refine Ret.at (impl_natCmp_c o5.ints (k.ext ((X.trans Y).trans (y4.trans y5)))) ?_
    rintro v w6 ⟨hv, y6⟩
    subst hv
    refine ⟨_, rfl, y6, ?_⟩
    have Y6 := (D.trans (y4.trans y5)).trans y6
    refine Ret.at (impl_NatEven_n (oq.ext Y6).ints (by omega)) ?_
    rintro v w7 ⟨hv, y7⟩
    subst hv
    refine ⟨_, rfl, y7, ?_⟩
    rw [odd_even]
    have Y7 := Y6.trans y7
    refine hcall _ _ ⟨_, rfl, fun hyes => ?_, fun hno => fin _ _ _ _ _ (y3.trans Y7) (oq.ext Y7) ?_⟩
    · intro r8 w8 hn8
      refine Ret.at (impl_natAdd_c ((oq.ext Y7).ext hn8.ext).ints (digs_one_r hn8.blk) (digs_limbs _) (digs_limbs _) (by omega) (by omega)) ?_
      rintro v w9 ⟨p9, n9, c9, hv, o9, y9⟩
      subst hv
      rw [val_add'] at o9
      have l8 := ((y3.trans Y7).trans hn8.ext).le
      refine ⟨_, _, _, rfl, fin _ _ _ _ _ (((y3.trans Y7).trans hn8.ext).trans y9) (o9.mono l8) ?_⟩
      rw [roundM, if_pos ⟨hne, hyes⟩]
    · rw [roundM, if_neg (fun hh => by rw [hh.2] at hno; cases hno)]
  · have heq : x.natAbs % d = 0 := Decidable.byContradiction fun hh => by
      have := digs_pos_len.2 hh
      omega
    rw [roundM, if_neg (fun hh => hh.1 heq)]
theorem impl_RatRound_n {w : World} {xs : List Value} {N : Int} {D : Nat} {m : Int} (h : Reps w xs (rmk N D)) (hok : ratOk (rmk N D) = true) :
    Ret P n_impl_RatRound [.agg ⟨xs⟩, .int .i64 m] w fun v w' => ∃ vs f, v = .tuple #[.agg ⟨vs⟩, .bool (modeOk m)] /\ Owns w' w.heap.size vs (enc (if modeOk m then rround N D m else 0)) f /\ f.Nodup /\ Ext w w' := by
  have hr := h
  obtain ⟨p1, n1, c1, p2, n2, c2, rfl, i1, i2, li1, li2, he, hd⟩ := rmk_open h hok
  have ei1 := i1.1; have ei2 := i2.1
  refine impl_RatRound_ret ?_
  unfold impl_RatRound
  intro r w1 hn1 r1 w2 hn2
  have e1 := hn1.r_eq; have e2 := hn2.r_eq; have z1 := hn1.size; have z2 := hn2.size
  have X := hn1.ext.trans hn2.ext
  have b0 := hn1.blk.ext hn2.ext; have b1 := hn2.blk
  refine ⟨_, _, _, _, _, _, _, b0.loadA0 (by kernel_rfl), ?_⟩
  refine Ret.at (impl_RatOk_c (hr.ext X) (rmk_code _ _)) ?_
  rintro v w3 ⟨hv, y3⟩
  subst hv
  rw [hok]
  refine ⟨_, rfl, ifN (fun hh => absurd hh (by simp)) (fun _ => ?_)⟩
  refine Ret.at (impl_isMode_c m _) ?_
  rintro v w4 ⟨hv, hw⟩
  subst hv; subst hw
  have X3 := X.trans y3
  have l3 := y3.le
  have b0 := b0.ext y3; have b1 := b1.ext y3
  refine ⟨_, rfl, ifN (fun hno => ?_) (fun hyes => ?_)⟩
  · obtain ⟨W', st, ld, ow, xx, _, _⟩ := agg_end (t := T_impl_Signed) b1 X3 (by omega) (own_sgn0 w4 (r1 + 1)) (by kernel_rfl) rfl (by omega) (by omega)
    exact ⟨W', st, _, _, _, _, ld, _, [], by rw [hno], by rw [hno]; exact ow, List.nodup_nil, xx⟩
  · refine ⟨_, _, _, _, b0.loadAAt 0 [.bool (decide (N < 0)), .slice p1 n1 c1] rfl (by kernel_rfl) rfl, _, _, _, b0.loadAt 2 rfl (by kernel_rfl) rfl, ?_⟩
    refine Ret.at (impl_roundQuotient_n (he.ext X3) (i2.ext X3) hd (by omega) (by omega) hyes) ?_
    rintro v w5 ⟨vs5, f5, hv, ho5, nd5, y5⟩
    subst hv
    have hr5 := ho5.reps
    obtain ⟨s0, sp, sn, sc, sz, rfl, _, _⟩ := open_Signed hr5 (enc_code _)
    obtain ⟨W', st, ld, ow, xx, _, _⟩ := agg_end (t := T_impl_Signed) (b1.ext y5) (X3.trans y5) (by omega) ho5 (by kernel_rfl) rfl (by omega) (by omega)
    exact ⟨_, _, _, _, rfl, W', st, _, _, _, _, ld, _, f5, by rw [hyes], by rw [hyes]; exact ow, nd5, xx⟩
end Go.Proofs.YtbgokfhcgcoipaaGreatDoor
namespace Go.Proofs.YtbgokfhcgcoipaaGreatDoor
open Go Go.Proofs.YtbgokfhcgcoipaaGreatDoor.Sx
theorem own_money0 (W : World) (B : Nat) : Owns W B [.string ByteArray.empty, .bool false, .slice none 0 0] zeroMoney [] :=
  Owns.append (Owns.str _ _ _) (Owns.append (Owns.bool _ _ false) (Owns.ints (zs := []) (Own.nil W B T_int 1)))
end Go.Proofs.YtbgokfhcgcoipaaGreatDoor
namespace Go.Proofs.YtbgokfhcgcoipaaGreatDoor
open Go Go.Proofs.YtbgokfhcgcoipaaGreatDoor.Sx
theorem two_end {t1 t2 : TypeId} {w W : World} {r1 r2 : Nat} {e1 e2 : TypeId} {o1 o2 xs1 xs2 : List Value} {d1 d2 : List D0} {f1 f2 : List Nat} {B : Nat} (hb1 : Blk W r1 e1 o1) (hb2 : Blk W r2 e2 o2) (X : Ext w W)
    (ho1 : Owns W B xs1 d1 f1) (ho2 : Owns W B xs2 d2 f2) (ht1 : aggT P t1 xs1.length = true) (hl1 : xs1.length = o1.length) (ht2 : aggT P t2 xs2.length = true) (hl2 : xs2.length = o2.length) (hne : r1 ≠ r2) (hr1 : w.heap.size <= r1) (hr2 : w.heap.size <= r2) (hB1 : r1 < B) (hB2 : r2 < B) (hwB : w.heap.size <= B) :
    ∃ W1 W2, Stores P t1 ⟨r1, 0, none⟩ (.agg ⟨xs1⟩) W W1 /\ Chg [r1] W W1 /\ Stores P t2 ⟨r2, 0, none⟩ (.agg ⟨xs2⟩) W1 W2 /\ Loads P t1 ⟨r1, 0, none⟩ (.agg ⟨xs1⟩) W2 /\ Loads P t2 ⟨r2, 0, none⟩ (.agg ⟨xs2⟩) W2 /\ Owns W2 w.heap.size xs1 d1 f1 /\ Owns W2 w.heap.size xs2 d2 f2 /\ Ext w W2 := by
  obtain ⟨W1, st1, hb1', ch1, _⟩ := hb1.storeA0 (P := P) (t := t1) (xs := xs1) ht1 hl1 ho1.reps.cells1
  obtain ⟨W2, st2, hb2', ch2, _⟩ := (hb2.chg ch1 (by simp; omega)).storeA0 (P := P) (t := t2) (xs := xs2) ht2 hl2 ho2.reps.cells1
  exact ⟨W1, W2, st1, ch1, st2, (hb1'.chg ch2 (by simp; omega)).loadA0 ht1, hb2'.loadA0 ht2, ((ho1.chg1 ch1 hB1).chg1 ch2 hB2).mono hwB, ((ho2.chg1 ch1 hB1).chg1 ch2 hB2).mono hwB, (X.chg ch1 (by simp; exact hr1)).chg ch2 (by simp; exact hr2)⟩
theorem Owns.notin {w : World} {B : Nat} {r : Nat} {e : TypeId} {cs : List Value} (hb : Blk w r e cs) (he : e ≠ T_int) : ∀ {vs : List Value} {ds : List D0} {f : List Nat}, Owns w B vs ds f -> r ∉ f
  | [], [], f, h => by rw [show f = [] from h]; simp
  | [], _ :: _, _, h => h.elim
  | _ :: _, [], _, h => h.elim
  | v :: vs, d :: ds, _, h => by
    obtain ⟨f1, f2, rfl, h1, h2⟩ := h
    have ih := Owns.notin hb he h2
    intro hm
    rcases List.mem_append.1 hm with hm | hm
    · cases d <;> simp only [Own0] at h1
      case ints zs =>
        obtain ⟨p, n, c, _, ho, hf⟩ := h1
        rw [hf] at hm
        have hm := opt_mem hm
        rcases ho.2 with k1 | ⟨g, cap, cur, k1, k2, k3, k4⟩
        · simp only [Value.slice.injEq] at k1
          rw [k1.1.1] at hm
          simp at hm
        · simp only [Value.slice.injEq] at k1
          rw [k1.1] at hm
          simp at hm
          subst hm
          rw [show w.heap[g]? = _ from hb] at k3
          simp only [Option.some.injEq, Obj.cells.injEq] at k3
          exact he k3.2.1
      all_goals (rw [h1.2] at hm; simp at hm)
    · exact ih hm
def rr (N : Int) (D : Nat) (m : Int) : Int := if modeOk m then rround N D m else 0
def restR (N : Int) (D : Nat) (m : Int) : List D0 := redR (N * ((1 : Nat) : Int) + -(rround N D m) * (D : Int)) (D * 1)
def rs (N : Int) (D : Nat) (m : Int) : List D0 := if modeOk m then restR N D m else rat0
def rmOk (cur : ByteArray) (N : Int) (D : Nat) (m : Int) : Bool := modeOk m && moneyOk (.str cur :: enc (rround N D m))
def rmMoney (cur : ByteArray) (N : Int) (D : Nat) (m : Int) : List D0 := if rmOk cur N D m then .str cur :: enc (rround N D m) else zeroMoney
def rmRest (cur : ByteArray) (N : Int) (D : Nat) (m : Int) : List D0 := if rmOk cur N D m then restR N D m else rat0
theorem one_len1 : (digs 1).length <= 1 := by rw [digs_one]; decide
theorem redR_int {z : Int} (h : (digs z.natAbs).length <= 18) : redR z 1 = rmk z 1 := by
  have h1 : redN z 1 = z := by
    have h2 : Nat.gcd z.natAbs 1 = 1 := Nat.gcd_one_right _
    unfold redN
    rw [h2, Nat.div_one]
    split <;> omega
  have h2 : redD z 1 = 1 := by
    have h2 : Nat.gcd z.natAbs 1 = 1 := Nat.gcd_one_right _
    unfold redD
    rw [h2]
  rw [redR_small h (Nat.le_trans one_len1 (by decide)), h1, h2]
theorem rmk_int_ok {z : Int} (h : (digs z.natAbs).length <= 18) : ratOk (rmk z 1) = true := ratOk_rmk (by decide) (Nat.gcd_one_right _) h (Nat.le_trans one_len1 (by decide))
theorem rr_len {N : Int} {D : Nat} {m : Int} (hd : 0 < D) (h : (digs N.natAbs).length <= 10) : (digs (rr N D m).natAbs).length <= 11 := by
  unfold rr
  split
  · rw [rround_abs]; exact roundM_len hd h
  · rw [Int.natAbs_zero, digs_zero]; simp
theorem rest_len {N z : Int} {D : Nat} (hN : (digs N.natAbs).length <= 10) (hD : (digs D).length <= 6) (hz : (digs z.natAbs).length <= 11) : redOk (N * ((1 : Nat) : Int) + -z * (D : Int)) (D * 1) = true := by
  have h1 : (digs (-z * (D : Int)).natAbs).length <= 17 := by
    rw [Int.natAbs_mul, Int.natAbs_natCast, Int.natAbs_neg]
    exact prod_len hz hD
  have h2 : (digs (N * ((1 : Nat) : Int)).natAbs).length <= 17 := by
    rw [Int.natCast_one, Int.mul_one]; omega
  exact redOk_small (sum_len h2 h1) (by rw [Nat.mul_one]; omega)
theorem impl_moneyOf_s {w : World} (ht : Tab w) {B : Nat} {xs : List Value} {z : Int} {f : List Nat} (cur : ByteArray) (h : Owns w B xs (enc z) f) (hnd : f.Nodup) (hB : B <= w.heap.size) :
    Ret P n_impl_moneyOf [.string cur, .agg ⟨xs⟩] w fun v w' => ∃ vs f', v = .tuple #[.agg ⟨vs⟩, .bool (moneyOk (.str cur :: enc z))] /\ Owns w' B vs (moneyMk cur z) f' /\ f'.Nodup /\ (∀ k ∈ f', k ∈ f) /\ Ext w w' := by
  have ho := h
  obtain ⟨a0, a1p, a1n, a1c, a1z, rfl, hd, ha⟩ := open_Signed h.reps (enc_code _)
  refine impl_moneyOf_ret ?_
  unfold impl_moneyOf
  intro r w1 hn1 r1 w2 hn2
  refine ⟨_, _, _, _, (hn1.blk.ext hn2.ext).loadA0 (by kernel_rfl), ?_⟩
  intro r2 w3 hn3
  have e1 := hn1.r_eq; have e2 := hn2.r_eq; have e3 := hn3.r_eq; have s1 := hn1.size; have s2 := hn2.size; have s3 := hn3.size
  obtain ⟨w4, st4, hb4, y4⟩ := hn3.fill (P := P) (t := T_impl_Money) (xs := [.string cur, .bool a0, .slice a1p a1n a1c]) (by simp [Value.oneCell']) (by kernel_rfl) rfl
  have X := (hn1.ext.trans hn2.ext).trans y4
  have k1 := hn2.blk.ext y4
  refine ⟨w4, st4, _, _, _, _, _, hb4.loadA0 (by kernel_rfl), ?_⟩
  have hm : Reps w4 [.string cur, .bool a0, .slice a1p a1n a1c] (.str cur :: enc z) := ⟨rfl, h.reps.ext X⟩
  refine Ret.at (impl_MoneyOk_c (ht.ext X) hm rfl) ?_
  rintro v w5 ⟨hv, y5⟩
  subst hv
  have X5 := X.trans y5
  refine ⟨_, rfl, fun hyes => ?_, fun hno => ?_⟩
  · obtain ⟨w6, st6, hb6, ch, sz⟩ := (k1.ext y5).storeA0 (P := P) (t := T_impl_Money) (xs := [.string cur, .bool a0, .slice a1p a1n a1c]) (by kernel_rfl) rfl (by simp [Value.oneCell'])
    refine ⟨_, _, _, _, _, (hb4.ext y5).loadA0 (by kernel_rfl), w6, st6, _, _, _, _, _, hb6.loadA0 (by kernel_rfl), [.string cur, .bool a0, .slice a1p a1n a1c], f, by rw [hyes], ?_, hnd, fun _ hh => hh, X5.chg ch (by simp; omega)⟩
    unfold moneyMk
    rw [hyes]
    have h5 := ((ho.ext X5).chg ch fun k hk hm => by
      have := (ho.lt k hk).2
      simp at hm; omega)
    exact Owns.append (Owns.str _ _ cur) h5
  · obtain ⟨w6, st6, hb6, ch, sz⟩ := (k1.ext y5).storeA0 (P := P) (t := T_impl_Money) (xs := [.string ByteArray.empty, .bool false, .slice none 0 0]) (by kernel_rfl) rfl (by simp [Value.oneCell'])
    refine ⟨w6, st6, _, _, _, _, _, hb6.loadA0 (by kernel_rfl), [.string ByteArray.empty, .bool false, .slice none 0 0], [], by rw [hno], ?_, List.nodup_nil, fun _ hh => by simp at hh, X5.chg ch (by simp; omega)⟩
    unfold moneyMk
    rw [hno]
    exact Owns.append (Owns.str _ _ _) (Owns.append (Owns.bool _ _ false) (Owns.ints (zs := []) (Own.nil w6 B T_int 1)))
theorem impl_RatRest_n {w : World} {xs : List Value} {N : Int} {D : Nat} {m : Int} (h : Reps w xs (rmk N D)) (hok : ratOk (rmk N D) = true) (hN : (digs N.natAbs).length <= 10) (hD : (digs D).length <= 6) :
    Ret P n_impl_RatRest [.agg ⟨xs⟩, .int .i64 m] w fun v w' => ∃ vs1 f1 vs2 f2, v = .tuple #[.agg ⟨vs1⟩, .agg ⟨vs2⟩, .bool (modeOk m)] /\ Owns w' w.heap.size vs1 (enc (rr N D m)) f1 /\ f1.Nodup /\ Owns w' w.heap.size vs2 (rs N D m) f2 /\ f2.Nodup /\ (∀ k ∈ f1, k ∉ f2) /\ Ext w w' := by
  have hr := h
  obtain ⟨p1, n1, c1, p2, n2, c2, rfl, i1, i2, li1, li2, he, hd⟩ := rmk_open h hok
  refine impl_RatRest_ret ?_
  unfold impl_RatRest
  intro r w1 hn1 r1 w2 hn2 r2 w3 hn3
  have e1 := hn1.r_eq; have e2 := hn2.r_eq; have e3 := hn3.r_eq; have z1 := hn1.size; have z2 := hn2.size; have z3 := hn3.size
  have X := (hn1.ext.trans hn2.ext).trans hn3.ext
  have b0 := (hn1.blk.ext hn2.ext).ext hn3.ext; have b1 := hn2.blk.ext hn3.ext; have b2 := hn3.blk
  have zlen := rr_len (m := m) hd hN
  have zok := rmk_int_ok (show (digs (rr N D m).natAbs).length <= 18 by omega)
  have zred := redR_int (show (digs (rr N D m).natAbs).length <= 18 by omega)
  have zrok := redOk_small (n := rr N D m) (d := 1) (by omega) (Nat.le_trans one_len1 (by decide))
  have dok := rest_len (z := rr N D m) hN hD zlen
  refine ⟨_, _, _, _, _, _, _, b0.loadA0 (by kernel_rfl), ?_⟩
  refine Ret.at (impl_RatRound_n (m := m) (hr.ext X) hok) ?_
  rintro v w4 ⟨vs4, f4, hv, ho4, nd4, y4⟩
  subst hv
  have ho4 : Owns w4 w3.heap.size vs4 (enc (rr N D m)) f4 := ho4
  have hr4 := ho4.reps
  obtain ⟨s0, sp, sn, sc, sz, rfl, _, _⟩ := open_Signed hr4 (enc_code _)
  refine ⟨_, _, _, _, _, rfl, ?_⟩
  intro r3 w5 hn5
  have e5 := hn5.r_eq; have z5 := hn5.size; have l4 := y4.le
  obtain ⟨w6, st6, hb6, y6⟩ := hn5.fill (P := P) (t := T_impl_Signed) (xs := [.bool s0, .slice sp sn sc]) (by simp [Value.oneCell']) (by kernel_rfl) rfl
  have Y6 := y4.trans y6
  have l6 := y6.le
  have zero : ∀ W, Ext w6 W -> modeOk m = false -> ∃ W1, Stores P T_impl_Signed ⟨r1, 0, none⟩ (.agg ⟨[.bool false, .slice none 0 0]⟩) W W1 /\ ∃ W2, Stores P T_impl_Rat ⟨r2, 0, none⟩ (.agg ⟨[.bool false, .slice none 0 0, .slice none 0 0]⟩) W1 W2 /\ Loads P T_impl_Signed ⟨r1, 0, none⟩ (.agg ⟨[.bool false, .slice none 0 0]⟩) W2 /\ Loads P T_impl_Rat ⟨r2, 0, none⟩ (.agg ⟨[.bool false, .slice none 0 0, .slice none 0 0]⟩) W2 /\ Owns W2 w.heap.size [.bool false, .slice none 0 0] (enc (rr N D m)) [] /\ Owns W2 w.heap.size [.bool false, .slice none 0 0, .slice none 0 0] (rs N D m) [] /\ Ext w W2 := by
    intro W hW hno
    have q1 := (b1.ext Y6).ext hW; have q2 := (b2.ext Y6).ext hW
    obtain ⟨W1, W2, a1, _, a2, a3, a4, a5, a6, a7⟩ := two_end (t1 := T_impl_Signed) (t2 := T_impl_Rat) q1 q2 ((X.trans Y6).trans hW) (own_sgn0 W (r2 + 1)) (own_rat0 W (r2 + 1)) (by kernel_rfl) rfl (by kernel_rfl) rfl (by omega) (by omega) (by omega) (by omega) (by omega) (by omega)
    have z1' : rr N D m = 0 := by rw [rr, hno]; rfl
    have z2' : rs N D m = rat0 := by rw [rs, hno]; rfl
    rw [z1', z2']
    exact ⟨W1, a1, W2, a2, a3, a4, a5, a6, a7⟩
  refine ⟨w6, st6, ifN (fun hno => ?_) (fun hyes => ?_)⟩
  · obtain ⟨W1, a1, W2, a2, a3, a4, a5, a6, a7⟩ := zero _ (Ext.refl _) hno
    exact ⟨W1, a1, W2, a2, _, _, _, _, a3, _, _, _, _, _, _, _, a4, _, [], _, [], by rw [hno], a5, List.nodup_nil, a6, List.nodup_nil, fun k hk => by simp at hk, a7⟩
  ·
    have hr6 : Reps w6 [.bool s0, .slice sp sn sc] (enc (rr N D m)) := hr4.ext y6
    refine ⟨_, _, _, _, hb6.loadA0 (by kernel_rfl), ?_⟩
    refine Ret.at (impl_RatInt_n hr6 (by omega)) ?_
    rintro v w7 ⟨vs7, f7, hv, ho7, _, y7⟩
    subst hv
    rw [zred] at ho7
    rw [zrok]
    have hr7 := ho7.reps
    obtain ⟨u0, up, un, uc, uz, up2, un2, uc2, uz2, rfl, _, _, _⟩ := open_Rat hr7 (rmk_code _ _)
    refine ⟨_, _, _, _, _, _, _, _, rfl, ?_⟩
    intro r4 w8 hn8
    have e8 := hn8.r_eq; have z8 := hn8.size; have l7 := y7.le
    obtain ⟨w9, st9, hb9, y9⟩ := hn8.fill (P := P) (t := T_impl_Rat) (xs := [.bool u0, .slice up un uc, .slice up2 un2 uc2]) (by simp [Value.oneCell']) (by kernel_rfl) rfl
    have l9 := y9.le
    have Y9 := (Y6.trans y7).trans y9
    refine ⟨w9, st9, _, _, _, _, _, _, _, (b0.ext Y9).loadA0 (by kernel_rfl), _, _, _, _, _, _, _, hb9.loadA0 (by kernel_rfl), ?_⟩
    refine Ret.at (impl_RatSub_n (hr.ext (X.trans Y9)) (hr7.ext y9) hok zok) ?_
    rintro v w10 ⟨vs10, f10, hv, ho10, nd10, y10⟩
    subst hv
    rw [dok]
    have hr10 := ho10.reps
    obtain ⟨g0, gp, gn, gc, gz, gp2, gn2, gc2, gz2, rfl, _, _, _⟩ := open_Rat hr10 (redR_code _ _)
    refine ⟨_, _, _, _, _, _, _, _, rfl, ?_⟩
    intro r5 w11 hn11
    have e11 := hn11.r_eq; have z11 := hn11.size; have l10 := y10.le
    obtain ⟨w12, st12, hb12, y12⟩ := hn11.fill (P := P) (t := T_impl_Rat) (xs := [.bool g0, .slice gp gn gc, .slice gp2 gn2 gc2]) (by simp [Value.oneCell']) (by kernel_rfl) rfl
    have D' := Ext.drew w12
    have Y12 := ((Y9.trans y10).trans y12).trans D'
    have T12 := (((y7.trans y9).trans y10).trans y12).trans D'
    have q1 := b1.ext Y12; have q2 := b2.ext Y12
    have k3 := hb6.ext T12; have k5 := hb12.ext D'
    have o1 := (ho4.ext y6).ext T12
    have o2 := ((ho10.ext y12).ext D').mono (show w3.heap.size <= w9.heap.size by omega)
    have dis : ∀ k ∈ f4, k ∉ f10 := fun k hk hm => by
      have a := (ho4.lt k hk).2
      have b := (ho10.lt k hm).1
      omega
    refine ⟨w12, st12, ?_⟩
    refine ifN (fun hh => absurd hh (by simp)) (fun _ => ifN (fun hh => absurd hh (by simp)) (fun _ => ?_))
    obtain ⟨W1, W2, a1, ch1, a2, a3, a4, a5, a6, a7⟩ := two_end (t1 := T_impl_Signed) (t2 := T_impl_Rat) q1 q2 (X.trans Y12) o1 o2 (by kernel_rfl) rfl (by kernel_rfl) rfl (by omega) (by omega) (by omega) (by omega) (by omega) (by omega)
    have z1' : rr N D m = rround N D m := by rw [rr, hyes]; rfl
    have z2' : rs N D m = restR N D m := by rw [rs, hyes]; rfl
    refine ⟨[r1], _, _, _, _, fun W hW => (k3.chg (show Chg [r1] w12.drew W from hW) (by simp; omega)).loadA0 (by kernel_rfl), _, _, _, _, _, _, _, fun W hW => (k5.chg (show Chg [r1] w12.drew W from hW) (by simp; omega)).loadA0 (by kernel_rfl), W1, a1, show Chg [r1] w12.drew W1 from ch1, W2, a2, _, _, _, _, a3, _, _, _, _, _, _, _, a4, _, f4, _, f10, by rw [hyes], a5, nd4, ?_, nd10, dis, a7⟩
    rw [z2', restR, <- z1']
    exact a6
end Go.Proofs.YtbgokfhcgcoipaaGreatDoor
namespace Go.Proofs.YtbgokfhcgcoipaaGreatDoor
open Go Go.Proofs.YtbgokfhcgcoipaaGreatDoor.Sx
def taxOk : List D0 -> Bool
  | [.bool b, .ints z, .int s] => decOk [.bool b, .ints z, .int s] && decide (z.length <= 1) && !b && decide (dcmp [.bool b, .ints z, .int s] (enc 1 ++ [.int 0]) <= 0)
  | _ => false
theorem impl_TaxRateOk_c {w : World} {xs : List Value} {dx : List D0} (h : Reps w xs dx) (hc : dx.map D0.code = [.bool, .ints, .int]) :
    Ret P n_impl_TaxRateOk [.agg ⟨xs⟩] w fun v w' => v = .bool (taxOk dx) /\ Ext w w' := by
  have hr := h
  obtain ⟨a0, a1p, a1n, a1c, a1z, a2, rfl, rfl, ha⟩ := open_Dec h hc
  refine impl_TaxRateOk_ret ?_
  unfold impl_TaxRateOk
  intro r w1 hn1
  have D := Ext.drew w1
  have X := hn1.ext.trans D
  have hl := ha.1
  refine ⟨_, _, _, _, _, fun W hW => (hn1.blk.ext (D.trans hW)).loadA0 (by kernel_rfl), ?_⟩
  refine Ret.at (impl_DecOk_c (hr.ext X) rfl) ?_
  rintro v w2 ⟨hv, y2⟩
  subst hv
  have X2 := X.trans y2
  have b := (hn1.blk.ext D).ext y2
  refine ⟨_, rfl, fun e1 => ⟨_, _, _, fun W hW => (b.ext hW).loadAt 1 rfl (by kernel_rfl) rfl, ifD (fun hle => ⟨_, fun W hW => (b.ext hW).loadAt 0 rfl (by kernel_rfl) rfl, fun e2 => ?_, fun e2 => ⟨?_, X2⟩⟩) (fun hgt => ifF ⟨?_, X2⟩)⟩, fun e1 => ifF (ifF ⟨?_, X2⟩)⟩
  · refine ⟨_, _, _, _, _, fun W hW => (b.ext hW).loadA0 (by kernel_rfl), ?_⟩
    refine Ret.at (impl_IntOf_c (n := 1) (by omega) (by omega)) ?_
    rintro v w3 ⟨vs, f, hv, ho, _, y3⟩
    subst hv
    obtain ⟨g0, gp, gn, gc, gz, rfl, hg, hgi⟩ := open_Signed ho.reps (enc_code _)
    refine ⟨_, _, _, _, rfl, y3, ?_⟩
    have hone : Reps w3 [.bool g0, .slice gp gn gc, .int .i64 0] (enc 1 ++ [.int 0]) := by
      rw [hg]; exact ⟨rfl, ⟨_, _, _, rfl, hgi⟩, rfl, trivial⟩
    refine Ret.at (impl_DecCmp_c (hr.ext (X2.trans y3)) hone rfl rfl) ?_
    rintro v w4 ⟨hv, y4⟩
    subst hv
    refine ⟨_, rfl, ?_, (X2.trans y3).trans y4⟩
    have e2 : a0 = false := by simpa using e2
    subst e2
    simp only [taxOk, e1, show decide (a1z.length <= 1) = true by simp; omega, Bool.and_self, Bool.not_false, Bool.true_and]
  · have e2 : a0 = true := by simpa using e2
    simp only [taxOk, e2, Bool.not_true, Bool.and_false, Bool.false_and]
  · simp only [taxOk, show decide (a1z.length <= 1) = false by simp; omega, Bool.and_false, Bool.false_and]
  · simp only [taxOk, e1, Bool.false_and]
end Go.Proofs.YtbgokfhcgcoipaaGreatDoor
namespace Go.Proofs.YtbgokfhcgcoipaaGreatDoor
open Go Go.Proofs.YtbgokfhcgcoipaaGreatDoor.Sx
theorem impl_RatMoney_n {w : World} {xs : List Value} {N : Int} {D : Nat} {m : Int} (cur : ByteArray) (h : Reps w xs (rmk N D)) (hok : ratOk (rmk N D) = true) (hN : (digs N.natAbs).length <= 10) (hD : (digs D).length <= 6) (ht : Tab w) :
    Ret P n_impl_RatMoney [.string cur, .agg ⟨xs⟩, .int .i64 m] w fun v w' => ∃ vs1 f1 vs2 f2, v = .tuple #[.agg ⟨vs1⟩, .agg ⟨vs2⟩, .bool (rmOk cur N D m)] /\ Owns w' w.heap.size vs1 (rmMoney cur N D m) f1 /\ f1.Nodup /\ Owns w' w.heap.size vs2 (rmRest cur N D m) f2 /\ f2.Nodup /\ (∀ k ∈ f1, k ∉ f2) /\ Ext w w' := by
  have hr := h
  obtain ⟨p1, n1, c1, p2, n2, c2, rfl, i1, i2, li1, li2, he, hd⟩ := rmk_open h hok
  refine impl_RatMoney_ret ?_
  unfold impl_RatMoney
  intro r w1 hn1 r1 w2 hn2 r2 w3 hn3
  have e1 := hn1.r_eq; have e2 := hn2.r_eq; have e3 := hn3.r_eq; have z1 := hn1.size; have z2 := hn2.size; have z3 := hn3.size
  have X := (hn1.ext.trans hn2.ext).trans hn3.ext
  have b0 := (hn1.blk.ext hn2.ext).ext hn3.ext; have b1 := hn2.blk.ext hn3.ext; have b2 := hn3.blk
  refine ⟨_, _, _, _, _, _, _, b0.loadA0 (by kernel_rfl), ?_⟩
  refine Ret.at (impl_RatRest_n (m := m) (hr.ext X) hok hN hD) ?_
  rintro v w4 ⟨vs4, f4, vsr, fr, hv, ho4, nd4, hor, ndr, dis, y4⟩
  subst hv
  have l4 := y4.le
  have hr4 := ho4.reps; have hrr := hor.reps
  obtain ⟨s0, sp, sn, sc, sz, rfl, _, _⟩ := open_Signed hr4 (enc_code _)
  have rcode : (rs N D m).map D0.code = [.bool, .ints, .ints] := by
    unfold rs
    split
    · exact redR_code _ _
    · rfl
  obtain ⟨g0, gp, gn, gc, gz, gp2, gn2, gc2, gz2, rfl, _, _, _⟩ := open_Rat hrr rcode
  refine ⟨_, _, _, _, _, _, _, _, _, _, _, _, rfl, ?_⟩
  intro r3 w5 hn5 r4 w6 hn6
  have e5 := hn5.r_eq; have z5 := hn5.size; have e6 := hn6.r_eq; have z6 := hn6.size
  obtain ⟨w7, st7, hb7, ch7, sz7⟩ := (hn5.blk.ext hn6.ext).storeA0 (P := P) (t := T_impl_Signed) (xs := [.bool s0, .slice sp sn sc]) (by kernel_rfl) rfl (by simp [Value.oneCell'])
  obtain ⟨w8, st8, hb8, ch8, sz8⟩ := (hn6.blk.chg ch7 (by simp; omega)).storeA0 (P := P) (t := T_impl_Rat) (xs := [.bool g0, .slice gp gn gc, .slice gp2 gn2 gc2]) (by kernel_rfl) rfl (by simp [Value.oneCell'])
  have Z : Ext w4 w8 := ((hn5.ext.trans hn6.ext).chg ch7 (by simp; omega)).chg ch8 (by simp; omega)
  have k3 := hb7.chg ch8 (by simp; omega)
  have lZ := Z.le
  have Y8 := y4.trans Z
  refine ⟨w7, st7, w8, st8, ?_⟩
  refine ifN (fun hm1 => ?_) (fun hm1 => ?_)
  · obtain ⟨W1, W2, a1, _, a2, a3, a4, a5, a6, a7⟩ := two_end (t1 := T_impl_Money) (t2 := T_impl_Rat) (b1.ext Y8) (b2.ext Y8) (X.trans Y8) (own_money0 _ (r2 + 1)) (own_rat0 _ (r2 + 1)) (by kernel_rfl) rfl (by kernel_rfl) rfl (by omega) (by omega) (by omega) (by omega) (by omega) (by omega)
    have hno : rmOk cur N D m = false := by rw [rmOk, hm1]; rfl
    exact ⟨W1, a1, W2, a2, _, _, _, _, _, a3, _, _, _, _, _, _, _, a4, _, [], _, [], by rw [hno], by rw [rmMoney, hno]; exact a5, List.nodup_nil, by rw [rmRest, hno]; exact a6, List.nodup_nil, fun k hk => by simp at hk, a7⟩
  ·
    refine ⟨_, _, _, _, k3.loadA0 (by kernel_rfl), ?_⟩
    refine Ret.at (impl_moneyOf_s (ht.ext (X.trans Y8)) cur (ho4.ext Z) nd4 (show w3.heap.size <= w8.heap.size by omega)) ?_
    rintro v w9 ⟨vs9, f9, hv, ho9, nd9, sub9, y9⟩
    subst hv
    have hr9 := ho9.reps
    obtain ⟨m0, m1, mp, mn, mc, mz, rfl, _, _⟩ := open_Money hr9 (moneyMk_code _ _)
    refine ⟨_, _, _, _, _, _, rfl, ?_⟩
    intro r5 w10 hn10
    have e10 := hn10.r_eq; have z10 := hn10.size; have l9 := y9.le
    obtain ⟨w11, st11, hb11, y11⟩ := hn10.fill (P := P) (t := T_impl_Money) (xs := [.string m0, .bool m1, .slice mp mn mc]) (by simp [Value.oneCell']) (by kernel_rfl) rfl
    have Y11 := (Y8.trans y9).trans y11
    refine ⟨w11, st11, ?_⟩
    refine ifN (fun hm2 => ?_) (fun hm2 => ?_)
    · obtain ⟨W1, W2, a1, _, a2, a3, a4, a5, a6, a7⟩ := two_end (t1 := T_impl_Money) (t2 := T_impl_Rat) (b1.ext Y11) (b2.ext Y11) (X.trans Y11) (own_money0 _ (r2 + 1)) (own_rat0 _ (r2 + 1)) (by kernel_rfl) rfl (by kernel_rfl) rfl (by omega) (by omega) (by omega) (by omega) (by omega) (by omega)
      have hno : rmOk cur N D m = false := by
        have z1' : rr N D m = rround N D m := by rw [rr, hm1]; rfl
        rw [z1'] at hm2
        rw [rmOk, hm1, hm2]; rfl
      exact ⟨W1, a1, W2, a2, _, _, _, _, _, a3, _, _, _, _, _, _, _, a4, _, [], _, [], by rw [hno], by rw [rmMoney, hno]; exact a5, List.nodup_nil, by rw [rmRest, hno]; exact a6, List.nodup_nil, fun k hk => by simp at hk, a7⟩
    have D' := Ext.drew w11
    have Y12 := Y11.trans D'
    have q1 := b1.ext Y12; have q2 := b2.ext Y12
    have k4 := hb8.ext ((y9.trans y11).trans D'); have k5 := hb11.ext D'
    have o1 := (ho9.ext y11).ext D'
    have o2 := (hor.ext Z).ext ((y9.trans y11).trans D')
    have l11 := y11.le
    obtain ⟨W1, W2, a1, ch1, a2, a3, a4, a5, a6, a7⟩ := two_end (t1 := T_impl_Money) (t2 := T_impl_Rat) q1 q2 (X.trans Y12) o1 o2 (by kernel_rfl) rfl (by kernel_rfl) rfl (by omega) (by omega) (by omega) (by omega) (by omega) (by omega)
    have z1' : rr N D m = rround N D m := by rw [rr, hm1]; rfl
    rw [z1'] at hm2 a5
    have hyes : rmOk cur N D m = true := by rw [rmOk, hm1, hm2]; rfl
    refine ⟨[r1], _, _, _, _, _, fun W hW => (k5.chg (show Chg [r1] w11.drew W from hW) (by simp; omega)).loadA0 (by kernel_rfl), _, _, _, _, _, _, _, fun W hW => (k4.chg (show Chg [r1] w11.drew W from hW) (by simp; omega)).loadA0 (by kernel_rfl), W1, a1, show Chg [r1] w11.drew W1 from ch1, W2, a2, _, _, _, _, _, a3, _, _, _, _, _, _, _, a4, _, f9, _, fr, by rw [hyes], ?_, nd9, ?_, ndr, fun k hk => dis k (sub9 k hk), a7⟩
    · rw [rmMoney, hyes]
      rw [moneyMk, hm2] at a5
      exact a5
    · rw [rmRest, hyes]
      rw [rs, hm1] at a6
      exact a6
theorem impl_DecRat_n {w : World} {xs : List Value} {m t : Nat} (h : Reps w xs (dnn m (t : Int))) (hm : (digs m).length <= 6) (ht : t <= 30) :
    Ret P n_impl_DecRat [.agg ⟨xs⟩] w fun v w' => ∃ vs f, v = .agg ⟨vs⟩ /\ Owns w' w.heap.size vs (redR (m : Int) (10 ^ t)) f /\ f.Nodup /\ Ext w w' := by
  have hr := h
  obtain ⟨a0, ap, an, ac, az, a2, rfl, hd, ha⟩ := open_Dec h rfl
  simp only [dnn, List.cons.injEq, D0.bool.injEq, D0.ints.injEq, D0.int.injEq, and_true] at hd
  obtain ⟨rfl, rfl, rfl⟩ := hd
  have hla := ha.1
  have hpow : 0 < 10 ^ t := Nat.pow_pos (by decide)
  have hten := ten_len ht
  refine impl_DecRat_ret ?_
  unfold impl_DecRat
  intro r w1 hn1 r1 w2 hn2
  have e1 := hn1.r_eq; have e2 := hn2.r_eq; have z1 := hn1.size; have z2 := hn2.size
  have X := hn1.ext.trans hn2.ext
  have b0 := hn1.blk.ext hn2.ext; have b1 := hn2.blk
  refine ⟨_, _, _, _, _, b0.loadA0 (by kernel_rfl), ?_⟩
  refine Ret.at (impl_DecOk_c (hr.ext X) rfl) ?_
  rintro v w3 ⟨hv, y3⟩
  subst hv
  rw [dnn_ok hm ⟨by omega, by omega⟩]
  refine ⟨_, rfl, ifN (fun hh => absurd hh (by simp)) (fun _ => ?_)⟩
  have D := Ext.drew w3
  have Y := y3.trans D
  have X4 := X.trans Y
  have lY := Y.le
  have b0 := b0.ext Y; have b1 := b1.ext Y
  refine ⟨_, _, _, _, fun W hW => (b0.ext hW).loadAAt 0 [.bool false, .slice ap an ac] rfl (by kernel_rfl) rfl, _, fun W hW => (b0.ext hW).loadAt 2 rfl (by kernel_rfl) rfl, ?_⟩
  intro ss w4 F1
  have S1 := (FlSt.start (o := .cells ⟨[.bool false, .slice none 0 0, .slice none 0 0]⟩ T_impl_Rat (0, 0)) w3.drew).step F1
  refine Ret.at (impl_natTen_c (k := (t : Int)) (by omega) (by omega)) ?_
  rintro v w5 ⟨p5, n5, c5, hv, o5, y5⟩
  subst hv
  rw [Int.toNat_natCast] at o5
  have l5 := o5.ints.1
  refine ⟨_, _, _, rfl, y5, ?_⟩
  intro ss1 w6 F2
  have S2 := (S1.ext y5).step F2
  have hs : Reps w6 [.bool false, .slice ap an ac] (enc (m : Int)) := by
    rw [natCast_enc]
    exact ⟨rfl, ⟨_, _, _, rfl, ha.ext (X4.trans S2.1)⟩, trivial⟩
  refine Ret.at (impl_reduce_c hs (o5.ints.ext F2.ext) hpow (by rw [Int.natAbs_natCast]; omega) (by omega)) ?_
  rintro v w7 ⟨vs7, f7, hv, ho7, nd7, y7⟩
  subst hv
  have hr7 := ho7.reps
  obtain ⟨g0, gp, gn, gc, gz, gp2, gn2, gc2, gz2, rfl, _, _, _⟩ := open_Rat hr7 (redR_code _ _)
  refine ⟨_, _, _, _, _, _, _, _, rfl, ?_⟩
  intro ss2 w8 r8 F3 G
  have S3 := (S2.ext y7).step F3
  obtain ⟨hr8, hbk⟩ := S3.get G
  have B8 : Blk w8 r8 T_impl_Rat [.bool false, .slice none 0 0, .slice none 0 0] := hbk
  obtain ⟨w9, st9, hb9, ch9, sz9⟩ := B8.storeA0 (P := P) (t := T_impl_Rat) (xs := [.bool g0, .slice gp gn gc, .slice gp2 gn2 gc2]) (by kernel_rfl) rfl (by simp [Value.oneCell'])
  have hni := Owns.notin B8 (by decide) (ho7.ext F3.ext)
  have ho9 := (ho7.ext F3.ext).chg ch9 (fun k hk hm' => hni (by simp at hm'; rwa [<- hm']))
  have Z9 : Ext w3.drew w9 := S3.1.chg ch9 (by simp; exact hr8)
  have lZ := S2.1.le
  obtain ⟨W', st, ld, ow, xx, _, _⟩ := agg_end (t := T_impl_Rat) (b1.ext Z9) (X4.trans Z9) (by omega) ho9 (by kernel_rfl) rfl (by omega) (by omega)
  exact ⟨w9, st9, _, _, _, _, _, _, _, hb9.loadA0 (by kernel_rfl), W', st, _, _, _, _, _, _, _, ld, _, f7, rfl, ow, nd7, xx⟩
theorem impl_MoneyRat_n {w : World} {xs : List Value} {c : ByteArray} {N : Int} (h : Reps w xs (.str c :: enc N)) (hok : moneyOk (.str c :: enc N) = true) (ht : Tab w) :
    Ret P n_impl_MoneyRat [.agg ⟨xs⟩] w fun v w' => ∃ vs f, v = .agg ⟨vs⟩ /\ Owns w' w.heap.size vs (rmk N 1) f /\ f.Nodup /\ Ext w w' := by
  have hr := h
  obtain ⟨t0, a0, ap, an, ac, az, rfl, hd, ha⟩ := open_Money h rfl
  simp only [enc, List.cons.injEq, D0.str.injEq, D0.bool.injEq, D0.ints.injEq, and_true] at hd
  obtain ⟨rfl, rfl, rfl⟩ := hd
  have hla := ha.1
  have h4 : (digs N.natAbs).length <= 4 := by
    simp only [moneyOk, enc, Bool.and_eq_true, decide_eq_true_eq] at hok
    exact hok.2
  refine impl_MoneyRat_ret ?_
  unfold impl_MoneyRat
  intro r w1 hn1 r1 w2 hn2
  have e1 := hn1.r_eq; have e2 := hn2.r_eq; have z1 := hn1.size; have z2 := hn2.size
  have X := hn1.ext.trans hn2.ext
  have b0 := hn1.blk.ext hn2.ext; have b1 := hn2.blk
  refine ⟨_, _, _, _, _, b0.loadA0 (by kernel_rfl), ?_⟩
  refine Ret.at (impl_MoneyOk_c (ht.ext X) (hr.ext X) rfl) ?_
  rintro v w3 ⟨hv, y3⟩
  subst hv
  rw [hok]
  refine ⟨_, rfl, ifN (fun hh => absurd hh (by simp)) (fun _ => ?_)⟩
  have l3 := y3.le
  have X3 := X.trans y3
  have hs : Reps w3 [.bool (decide (N < 0)), .slice ap an ac] (enc N) := ⟨rfl, ⟨_, _, _, rfl, ha.ext X3⟩, trivial⟩
  refine ⟨_, _, _, _, (b0.ext y3).loadAAt 1 [.bool (decide (N < 0)), .slice ap an ac] rfl (by kernel_rfl) rfl, ?_⟩
  refine Ret.at (impl_intCopy_c hs (enc_code _) (by simp only [bulks, enc, D0.bulk, List.map_cons, List.map_nil, List.sum_cons, List.sum_nil]; omega)) ?_
  rintro v w4 ⟨vs4, f4, hv, ho4, nd4, y4⟩
  subst hv
  have hr4 := ho4.reps
  obtain ⟨s0, sp, sn, sc, sz, rfl, _, _⟩ := open_Signed hr4 (enc_code _)
  refine ⟨_, _, _, _, rfl, ?_⟩
  intro r5 w5 hn5
  have e5 := hn5.r_eq; have z5 := hn5.size; have l4 := y4.le
  have hone : Own w5 w3.heap.size T_int 1 (some ⟨r5, 0, none⟩) 1 1 ((digs 1).map (Value.int .i64)) := by
    rw [digs_one]
    exact Own.of_blk hn5.blk (by omega) rfl (by decide)
  have ho5 := own_rmk (ho4.ext hn5.ext) hone
  obtain ⟨W', st, ld, ow, xx, _, _⟩ := agg_end (t := T_impl_Rat) ((b1.ext y3).ext (y4.trans hn5.ext)) (X3.trans (y4.trans hn5.ext)) (by omega) ho5 (by kernel_rfl) rfl (by omega) (by omega)
  refine ⟨W', st, _, _, _, _, _, _, _, ld, _, _, rfl, ow, ?_, xx⟩
  exact nodup_append nd4 (by simp) (m := w4.heap.size) (fun k hk => (ho4.lt k hk).2) (fun k hk => by simp at hk; omega)
end Go.Proofs.YtbgokfhcgcoipaaGreatDoor
namespace Go.Proofs.YtbgokfhcgcoipaaGreatDoor
open Go Go.Proofs.YtbgokfhcgcoipaaGreatDoor.Sx
def RV (d : List D0) (N : Int) (D : Nat) : Prop := ∃ (n : Int) (e k : Nat), d = rmk n e /\ ratOk (rmk n e) = true /\ 0 < e /\ 0 < k /\ N = n * k /\ D = e * k
theorem RV.pos {d : List D0} {N : Int} {D : Nat} (h : RV d N D) : 0 < D := by
  obtain ⟨n, e, k, _, _, h1, h2, _, rfl⟩ := h
  exact Nat.mul_pos h1 h2
theorem RV.scale {d : List D0} {N : Int} {D : Nat} (h : RV d N D) {j : Nat} (hj : 0 < j) : RV d (N * j) (D * j) := by
  obtain ⟨n, e, k, h0, h1, h2, h3, rfl, rfl⟩ := h
  exact ⟨n, e, k * j, h0, h1, h2, Nat.mul_pos h3 hj, by rw [Int.natCast_mul, Int.mul_assoc], by rw [Nat.mul_assoc]⟩
theorem RV.code {d : List D0} {N : Int} {D : Nat} (h : RV d N D) : d.map D0.code = [.bool, .ints, .ints] := by
  obtain ⟨n, e, k, rfl, _⟩ := h
  rfl
theorem red_parts (N : Int) {D : Nat} (hD : 0 < D) : ∃ g : Nat, 0 < g /\ N = redN N D * g /\ D = redD N D * g := by
  refine ⟨Nat.gcd N.natAbs D, gcd_pos_right hD, ?_, ?_⟩
  · unfold redN
    have h := Nat.div_mul_cancel (Nat.gcd_dvd_left N.natAbs D)
    generalize Nat.gcd N.natAbs D = g at *
    generalize N.natAbs / g = q at *
    split
    · rw [Int.neg_mul, <- Int.natCast_mul, h]; omega
    · rw [<- Int.natCast_mul, h]; omega
  · unfold redD
    exact (Nat.div_mul_cancel (Nat.gcd_dvd_right N.natAbs D)).symm
theorem RV.red {N : Int} {D : Nat} (hD : 0 < D) (h1 : (digs N.natAbs).length <= 18) (h2 : (digs D).length <= 18) : redOk N D = true /\ RV (redR N D) N D := by
  have hok := redOk_small h1 h2
  obtain ⟨g, hg, e1, e2⟩ := red_parts N hD
  refine ⟨hok, redN N D, redD N D, g, redR_yes hok, ?_, redD_pos hD, hg, e1, e2⟩
  have := redR_ok hD hok
  rwa [redR_yes hok] at this
theorem RV.red_by {M : Int} {E k : Nat} {N : Int} {D : Nat} (hk : 0 < k) (hD : 0 < D) (e1 : N = M * k) (e2 : D = E * k) (h1 : (digs N.natAbs).length <= 18) (h2 : (digs D).length <= 18) : redOk M E = true /\ RV (redR M E) N D := by
  have hE : 0 < E := by
    rcases Nat.eq_zero_or_pos E with h | h
    · subst h; rw [Nat.zero_mul] at e2; omega
    · exact h
  have l1 : M.natAbs <= N.natAbs := by rw [e1, Int.natAbs_mul, Int.natAbs_natCast]; exact Nat.le_mul_of_pos_right _ hk
  have l2 : E <= D := by rw [e2]; exact Nat.le_mul_of_pos_right _ hk
  obtain ⟨a, b⟩ := RV.red (N := M) hE (Nat.le_trans (digs_mono_len l1) h1) (Nat.le_trans (digs_mono_len l2) h2)
  exact ⟨a, by rw [e1, e2]; exact b.scale hk⟩
theorem cast_mul2 (a b c d : Int) : a * b * (c * d) = a * c * (b * d) := by
  rw [Int.mul_assoc, Int.mul_assoc, <- Int.mul_assoc b c d, Int.mul_comm b c, Int.mul_assoc c b d]
theorem rv_mul {d1 d2 : List D0} {N1 N2 : Int} {D1 D2 : Nat} (r1 : RV d1 N1 D1) (r2 : RV d2 N2 D2) (h1 : (digs (N1 * N2).natAbs).length <= 18) (h2 : (digs (D1 * D2)).length <= 18) :
    ∃ n1 n2 : Int, ∃ e1 e2 : Nat, d1 = rmk n1 e1 /\ d2 = rmk n2 e2 /\ ratOk (rmk n1 e1) = true /\ ratOk (rmk n2 e2) = true /\ redOk (n1 * n2) (e1 * e2) = true /\ RV (redR (n1 * n2) (e1 * e2)) (N1 * N2) (D1 * D2) := by
  have p := Nat.mul_pos r1.pos r2.pos
  obtain ⟨n1, e1, k1, a1, b1, c1, f1, rfl, rfl⟩ := r1
  obtain ⟨n2, e2, k2, a2, b2, c2, f2, rfl, rfl⟩ := r2
  obtain ⟨x, y⟩ := RV.red_by (M := n1 * n2) (E := e1 * e2) (k := k1 * k2) (Nat.mul_pos f1 f2) p (by rw [Int.natCast_mul, cast_mul2]) (by rw [Nat.mul_mul_mul_comm]) h1 h2
  exact ⟨n1, n2, e1, e2, a1, a2, b1, b2, x, y⟩
theorem add_cross (n1 n2 e1 e2 k1 k2 : Int) : n1 * k1 * (e2 * k2) + n2 * k2 * (e1 * k1) = (n1 * e2 + n2 * e1) * (k1 * k2) := by
  rw [cast_mul2, cast_mul2 n2 k2, Int.add_mul, Int.mul_comm k2 k1]
theorem rv_add {d1 d2 : List D0} {N1 N2 : Int} {D1 D2 : Nat} (r1 : RV d1 N1 D1) (r2 : RV d2 N2 D2) (h1 : (digs (N1 * D2 + N2 * D1).natAbs).length <= 18) (h2 : (digs (D1 * D2)).length <= 18) :
    ∃ n1 n2 : Int, ∃ e1 e2 : Nat, d1 = rmk n1 e1 /\ d2 = rmk n2 e2 /\ ratOk (rmk n1 e1) = true /\ ratOk (rmk n2 e2) = true /\ redOk (n1 * e2 + n2 * e1) (e1 * e2) = true /\ RV (redR (n1 * e2 + n2 * e1) (e1 * e2)) (N1 * D2 + N2 * D1) (D1 * D2) := by
  have p := Nat.mul_pos r1.pos r2.pos
  obtain ⟨n1, e1, k1, a1, b1, c1, f1, rfl, rfl⟩ := r1
  obtain ⟨n2, e2, k2, a2, b2, c2, f2, rfl, rfl⟩ := r2
  obtain ⟨x, y⟩ := RV.red_by (M := n1 * e2 + n2 * e1) (E := e1 * e2) (k := k1 * k2) (Nat.mul_pos f1 f2) p (by rw [Int.natCast_mul, Int.natCast_mul, Int.natCast_mul, add_cross]) (by rw [Nat.mul_mul_mul_comm]) h1 h2
  exact ⟨n1, n2, e1, e2, a1, a2, b1, b2, x, y⟩
theorem RV.int {z : Int} (h : (digs z.natAbs).length <= 18) : RV (rmk z 1) z 1 := ⟨z, 1, 1, rfl, rmk_int_ok h, by decide, by decide, by omega, rfl⟩
theorem impl_RatAdd_v {w : World} {xs ys : List Value} {d1 d2 : List D0} {N1 N2 : Int} {D1 D2 : Nat} (h : Reps w xs d1) (g : Reps w ys d2) (r1 : RV d1 N1 D1) (r2 : RV d2 N2 D2) (h1 : (digs (N1 * D2 + N2 * D1).natAbs).length <= 18) (h2 : (digs (D1 * D2)).length <= 18) :
    Ret P n_impl_RatAdd [.agg ⟨xs⟩, .agg ⟨ys⟩] w fun v w' => ∃ vs d, v = .tuple #[.agg ⟨vs⟩, .bool true] /\ Reps w' vs d /\ RV d (N1 * D2 + N2 * D1) (D1 * D2) /\ Ext w w' := by
  obtain ⟨n1, n2, e1, e2, rfl, rfl, b1, b2, x, y⟩ := rv_add r1 r2 h1 h2
  refine (impl_RatAdd_n h g b1 b2).mono ?_
  rintro v w' ⟨vs, f, hv, ho, _, hx⟩
  rw [x] at hv
  exact ⟨vs, _, hv, ho.reps, y, hx⟩
theorem impl_RatMul_v {w : World} {xs ys : List Value} {d1 d2 : List D0} {N1 N2 : Int} {D1 D2 : Nat} (h : Reps w xs d1) (g : Reps w ys d2) (r1 : RV d1 N1 D1) (r2 : RV d2 N2 D2) (h1 : (digs (N1 * N2).natAbs).length <= 18) (h2 : (digs (D1 * D2)).length <= 18) :
    Ret P n_impl_RatMul [.agg ⟨xs⟩, .agg ⟨ys⟩] w fun v w' => ∃ vs d, v = .tuple #[.agg ⟨vs⟩, .bool true] /\ Reps w' vs d /\ RV d (N1 * N2) (D1 * D2) /\ Ext w w' := by
  obtain ⟨n1, n2, e1, e2, rfl, rfl, b1, b2, x, y⟩ := rv_mul r1 r2 h1 h2
  refine (impl_RatMul_n h g b1 b2).mono ?_
  rintro v w' ⟨vs, f, hv, ho, _, hx⟩
  rw [x] at hv
  exact ⟨vs, _, hv, ho.reps, y, hx⟩
theorem impl_RatInt_v {w : World} {xs : List Value} {x : Int} (h : Reps w xs (enc x)) (hx : (digs x.natAbs).length <= 18) :
    Ret P n_impl_RatInt [.agg ⟨xs⟩] w fun v w' => ∃ vs d, v = .tuple #[.agg ⟨vs⟩, .bool true] /\ Reps w' vs d /\ RV d x 1 /\ Ext w w' := by
  obtain ⟨a, b⟩ := RV.red (N := x) (D := 1) (by decide) hx (Nat.le_trans one_len1 (by decide))
  refine (impl_RatInt_n h (by omega)).mono ?_
  rintro v w' ⟨vs, f, hv, ho, _, hx⟩
  rw [a] at hv
  exact ⟨vs, _, hv, ho.reps, b, hx⟩
theorem impl_DecRat_v {w : World} {xs : List Value} {m t : Nat} (h : Reps w xs [.bool false, .ints (digs m), .int (t : Int)]) (hm : (digs m).length <= 6) (ht : t <= 30) :
    Ret P n_impl_DecRat [.agg ⟨xs⟩] w fun v w' => ∃ vs d, v = .agg ⟨vs⟩ /\ Reps w' vs d /\ RV d (m : Int) (10 ^ t) /\ Ext w w' := by
  have h10 : 0 < 10 ^ t := Nat.pos_of_ne_zero (by simp)
  have := ten_len ht
  obtain ⟨a, b⟩ := RV.red (N := (m : Int)) h10 (by rw [Int.natAbs_natCast]; omega) (by omega)
  refine (impl_DecRat_n h hm ht).mono ?_
  rintro v w' ⟨vs, f, hv, ho, _, hx⟩
  exact ⟨vs, _, hv, ho.reps, b, hx⟩
theorem impl_MoneyRat_v {w : World} {xs : List Value} {c : ByteArray} {N : Int} (h : Reps w xs (.str c :: enc N)) (hok : moneyOk (.str c :: enc N) = true) (ht : Tab w) :
    Ret P n_impl_MoneyRat [.agg ⟨xs⟩] w fun v w' => ∃ vs d, v = .agg ⟨vs⟩ /\ Reps w' vs d /\ RV d N 1 /\ Ext w w' := by
  have hl : (digs N.natAbs).length <= 4 := by
    have h2 : (curKnown c && intOk (enc N) && decide ((digs N.natAbs).length <= 4)) = true := hok
    simp only [Bool.and_eq_true, decide_eq_true_eq] at h2
    exact h2.2
  refine (impl_MoneyRat_n h hok ht).mono ?_
  rintro v w' ⟨vs, f, hv, ho, _, hx⟩
  exact ⟨vs, _, hv, ho.reps, RV.int (by omega), hx⟩
end Go.Proofs.YtbgokfhcgcoipaaGreatDoor
namespace Go.Proofs.YtbgokfhcgcoipaaGreatDoor
open Go Go.Proofs.YtbgokfhcgcoipaaGreatDoor.Sx
def alk : List D0 -> List D0 -> Bool
  | [.str c, .bool b, .ints z], [.str c2, .bool b2, .ints z2] => moneyOk [.str c, .bool b, .ints z] && (moneyOk [.str c2, .bool b2, .ints z2] && decide (c = c2))
  | _, _ => false
def mres (al : Bool) (c : ByteArray) (z : Int) : Bool × List D0 := if al then (moneyOk (.str c :: enc z), moneyMk c z) else (false, zeroMoney)
theorem mres_code (al : Bool) (c : ByteArray) (z : Int) : (mres al c z).2.map D0.code = [.str, .bool, .ints] := by
  unfold mres
  split
  · exact moneyMk_code _ _
  · rfl
theorem alk_parts {c c2 : ByteArray} {b b2 : Bool} {z z2 : List Int} (h : alk [.str c, .bool b, .ints z] [.str c2, .bool b2, .ints z2] = true) : moneyOk [.str c, .bool b, .ints z] = true /\ moneyOk [.str c2, .bool b2, .ints z2] = true /\ c = c2 := by
  simpa [alk] using h
theorem impl_intAdd_n {w : World} {xs ys : List Value} {x y : Int} (h : Reps w xs (enc x)) (k : Reps w ys (enc y)) (hx : x.natAbs <= 1000000000000000000000000000000000000) (hy : y.natAbs <= 1000000000000000000000000000000000000) :
    Ret P n_impl_intAdd [.agg ⟨xs⟩, .agg ⟨ys⟩] w fun v w' => ∃ vs f, v = .agg ⟨vs⟩ /\ Owns w' w.heap.size vs (enc (x + y)) f /\ f.Nodup /\ Ext w w' := by
  have d1 : (digs x.natAbs).length <= 6 := digs_len_le (by omega)
  have d2 : (digs y.natAbs).length <= 6 := digs_len_le (by omega)
  exact (impl_intAdd_c h k (by omega) (by omega)).mono fun v w' ⟨p, n, c, hv, ho, hx⟩ => ⟨_, _, hv, Owns.int2 ho, nodup_opt p, hx⟩
theorem impl_alike_c {w : World} {xs ys : List Value} {c c2 : ByteArray} {b b2 : Bool} {z z2 : List Int} (h : Reps w xs [.str c, .bool b, .ints z]) (g : Reps w ys [.str c2, .bool b2, .ints z2]) (ht : Tab w) :
    Ret P n_impl_alike [.agg ⟨xs⟩, .agg ⟨ys⟩] w fun v w' => v = .bool (alk [.str c, .bool b, .ints z] [.str c2, .bool b2, .ints z2]) /\ Ext w w' := by
  have hr := h; have gr := g
  obtain ⟨cur, a0, ap, an, ac, az, rfl, hd, ha⟩ := open_Money h rfl
  cases hd
  obtain ⟨cur2, d0, bp, bn, bc, bz, rfl, hd, hb⟩ := open_Money g rfl
  cases hd
  refine impl_alike_ret ?_
  unfold impl_alike
  intro r w1 hn1 r1 w2 hn2
  have X := hn1.ext.trans hn2.ext
  have q0 := hn1.blk.ext hn2.ext; have q1 := hn2.blk
  refine ⟨_, _, _, _, _, q0.loadA0 (by kernel_rfl), ?_⟩
  refine Ret.at (impl_MoneyOk_c (ht.ext X) (hr.ext X) rfl) ?_
  rintro v w3 ⟨hv, y3⟩
  subst hv
  refine ⟨_, rfl, fun e => ⟨_, _, _, _, _, (q1.ext y3).loadA0 (by kernel_rfl), ?_⟩, fun e => ⟨fun hh => absurd hh (by simp), fun _ => ⟨by simp only [alk, e, Bool.false_and], X.trans y3⟩⟩⟩
  have X3 := X.trans y3
  refine Ret.at (impl_MoneyOk_c (ht.ext X3) (gr.ext X3) rfl) ?_
  rintro v w4 ⟨hv, y4⟩
  subst hv
  have Y := y3.trans y4
  exact ⟨_, rfl, fun e2 => ⟨_, (q0.ext Y).loadAt 0 rfl (by kernel_rfl) rfl, _, (q1.ext Y).loadAt 0 rfl (by kernel_rfl) rfl, by simp only [alk, e, e2, Bool.true_and], X.trans Y⟩, fun e2 => ⟨by simp only [alk, e, e2, Bool.false_and, Bool.and_false], X.trans Y⟩⟩
theorem impl_MoneyAdd_n {w : World} {xs ys : List Value} {c c2 : ByteArray} {b b2 : Bool} {z z2 : List Int} (h : Reps w xs [.str c, .bool b, .ints z]) (g : Reps w ys [.str c2, .bool b2, .ints z2]) (ht : Tab w) :
    Ret P n_impl_MoneyAdd [.agg ⟨xs⟩, .agg ⟨ys⟩] w fun v w' => ∃ vs f, v = .tuple #[.agg ⟨vs⟩, .bool (mres (alk [.str c, .bool b, .ints z] [.str c2, .bool b2, .ints z2]) c (ival [.bool b, .ints z] + ival [.bool b2, .ints z2])).1] /\ Owns w' w.heap.size vs (mres (alk [.str c, .bool b, .ints z] [.str c2, .bool b2, .ints z2]) c (ival [.bool b, .ints z] + ival [.bool b2, .ints z2])).2 f /\ f.Nodup /\ Ext w w' := by
  have hr := h; have gr := g
  obtain ⟨cur, a0, ap, an, ac, az, rfl, hd, ha⟩ := open_Money h rfl
  cases hd
  obtain ⟨cur2, d0, bp, bn, bc, bz, rfl, hd, hb⟩ := open_Money g rfl
  cases hd
  refine impl_MoneyAdd_ret ?_
  unfold impl_MoneyAdd
  intro r w1 hn1 r1 w2 hn2 r2 w3 hn3
  have e1 := hn1.r_eq; have e2 := hn2.r_eq; have e3 := hn3.r_eq; have s1 := hn1.size; have s2 := hn2.size; have s3 := hn3.size
  have X := (hn1.ext.trans hn2.ext).trans hn3.ext
  have q0 := (hn1.blk.ext hn2.ext).ext hn3.ext; have q1 := hn2.blk.ext hn3.ext; have q2 := hn3.blk
  refine ⟨_, _, _, _, _, q0.loadA0 (by kernel_rfl), _, _, _, _, _, q1.loadA0 (by kernel_rfl), ?_⟩
  refine Ret.at (impl_alike_c (hr.ext X) (gr.ext X) (ht.ext X)) ?_
  rintro v w4 ⟨hv, y4⟩
  subst hv
  have l4 := y4.le
  generalize hal : alk [.str c, .bool b, .ints z] [.str c2, .bool b2, .ints z2] = al
  refine ⟨_, rfl, ifN (fun hno => ?_) (fun hyes => ?_)⟩
  · subst hno
    obtain ⟨W', st', ld', ow', xx', _, _⟩ := agg_end (t := T_impl_Money) (q2.ext y4) (X.trans y4) (by omega) (own_money0 w4 (r2 + 1)) (by kernel_rfl) rfl (by omega) (by omega)
    exact ⟨W', st', _, _, _, _, _, ld', _, [], rfl, ow', List.nodup_nil, xx'⟩
  subst hyes
  obtain ⟨m1, m2, rfl⟩ := alk_parts hal
  have E1 := (intOk_enc (moneyOk_int m1)).1; have E2 := (intOk_enc (moneyOk_int m2)).1
  have B1 := money_bound m1; have B2 := money_bound m2
  have Y := y4.trans (Ext.drew w4)
  have X4 := X.trans Y
  have lY := Y.le
  have k0 := q0.ext Y; have k1 := q1.ext Y; have k2 := q2.ext Y
  have hx : Reps w4.drew [.bool b, .slice ap an ac] (enc (ival [.bool b, .ints z])) := by
    rw [<- E1]; exact ⟨rfl, ⟨_, _, _, rfl, ha.ext X4⟩, trivial⟩
  have hy : Reps w4.drew [.bool b2, .slice bp bn bc] (enc (ival [.bool b2, .ints z2])) := by
    rw [<- E2]; exact ⟨rfl, ⟨_, _, _, rfl, hb.ext X4⟩, trivial⟩
  generalize ival [.bool b, .ints z] = U at B1 hx
  generalize ival [.bool b2, .ints z2] = V at B2 hy
  refine ⟨_, fun W hW => (k0.ext hW).loadAt 0 rfl (by kernel_rfl) rfl, _, _, _, _, fun W hW => (k0.ext hW).loadAAt 1 [.bool b, .slice ap an ac] rfl (by kernel_rfl) rfl, _, _, _, _, fun W hW => (k1.ext hW).loadAAt 1 [.bool b2, .slice bp bn bc] rfl (by kernel_rfl) rfl, ?_⟩
  refine Ret.at (impl_intAdd_n hx hy B1 B2) ?_
  rintro v w6 ⟨vs6, f6, hv, ho6, nd6, y6⟩
  subst hv
  have Z6 := y6
  obtain ⟨g0, gp, gn, gc, gz, rfl, _, _⟩ := open_Signed ho6.reps (enc_code _)
  have l6 := y6.le
  refine ⟨_, _, _, _, rfl, y6, ?_⟩
  refine Ret.at (impl_moneyOf_s (ht.ext (X4.trans y6)) c ho6 nd6 (by omega)) ?_
  rintro v w7 ⟨vs7, f7, hv, ho7, nd7, _, y7⟩
  subst hv
  obtain ⟨u0, u1, up, un, uc, uz, rfl, _, _⟩ := open_Money ho7.reps (moneyMk_code _ _)
  obtain ⟨W', st', ld', ow', xx', _, _⟩ := agg_end (t := T_impl_Money) ((k2.ext Z6).ext y7) ((X4.trans Z6).trans y7) (by omega) ho7 (by kernel_rfl) rfl (by omega) (by omega)
  exact ⟨_, _, _, _, _, _, rfl, W', st', _, _, _, _, _, ld', _, f7, rfl, ow', nd7, xx'⟩
theorem impl_MoneySub_n {w : World} {xs ys : List Value} {c c2 : ByteArray} {b b2 : Bool} {z z2 : List Int} (h : Reps w xs [.str c, .bool b, .ints z]) (g : Reps w ys [.str c2, .bool b2, .ints z2]) (ht : Tab w) :
    Ret P n_impl_MoneySub [.agg ⟨xs⟩, .agg ⟨ys⟩] w fun v w' => ∃ vs f, v = .tuple #[.agg ⟨vs⟩, .bool (mres (alk [.str c, .bool b, .ints z] [.str c2, .bool b2, .ints z2]) c (ival [.bool b, .ints z] - ival [.bool b2, .ints z2])).1] /\ Owns w' w.heap.size vs (mres (alk [.str c, .bool b, .ints z] [.str c2, .bool b2, .ints z2]) c (ival [.bool b, .ints z] - ival [.bool b2, .ints z2])).2 f /\ f.Nodup /\ Ext w w' := by
  have hr := h; have gr := g
  obtain ⟨cur, a0, ap, an, ac, az, rfl, hd, ha⟩ := open_Money h rfl
  cases hd
  obtain ⟨cur2, d0, bp, bn, bc, bz, rfl, hd, hb⟩ := open_Money g rfl
  cases hd
  refine impl_MoneySub_ret ?_
  unfold impl_MoneySub
  intro r w1 hn1 r1 w2 hn2 r2 w3 hn3
  have e1 := hn1.r_eq; have e2 := hn2.r_eq; have e3 := hn3.r_eq; have s1 := hn1.size; have s2 := hn2.size; have s3 := hn3.size
  have X := (hn1.ext.trans hn2.ext).trans hn3.ext
  have q0 := (hn1.blk.ext hn2.ext).ext hn3.ext; have q1 := hn2.blk.ext hn3.ext; have q2 := hn3.blk
  refine ⟨_, _, _, _, _, q0.loadA0 (by kernel_rfl), _, _, _, _, _, q1.loadA0 (by kernel_rfl), ?_⟩
  refine Ret.at (impl_alike_c (hr.ext X) (gr.ext X) (ht.ext X)) ?_
  rintro v w4 ⟨hv, y4⟩
  subst hv
  have l4 := y4.le
  generalize hal : alk [.str c, .bool b, .ints z] [.str c2, .bool b2, .ints z2] = al
  refine ⟨_, rfl, ifN (fun hno => ?_) (fun hyes => ?_)⟩
  · subst hno
    obtain ⟨W', st', ld', ow', xx', _, _⟩ := agg_end (t := T_impl_Money) (q2.ext y4) (X.trans y4) (by omega) (own_money0 w4 (r2 + 1)) (by kernel_rfl) rfl (by omega) (by omega)
    exact ⟨W', st', _, _, _, _, _, ld', _, [], rfl, ow', List.nodup_nil, xx'⟩
  subst hyes
  obtain ⟨m1, m2, rfl⟩ := alk_parts hal
  have E1 := (intOk_enc (moneyOk_int m1)).1; have E2 := (intOk_enc (moneyOk_int m2)).1
  have B1 := money_bound m1; have B2 := money_bound m2
  have Y := y4.trans (Ext.drew w4)
  have X4 := X.trans Y
  have lY := Y.le
  have k0 := q0.ext Y; have k1 := q1.ext Y; have k2 := q2.ext Y
  have hx : Reps w4.drew [.bool b, .slice ap an ac] (enc (ival [.bool b, .ints z])) := by
    rw [<- E1]; exact ⟨rfl, ⟨_, _, _, rfl, ha.ext X4⟩, trivial⟩
  have hy : Reps w4.drew [.bool b2, .slice bp bn bc] (enc (ival [.bool b2, .ints z2])) := by
    rw [<- E2]; exact ⟨rfl, ⟨_, _, _, rfl, hb.ext X4⟩, trivial⟩
  generalize ival [.bool b, .ints z] = U at B1 hx
  generalize ival [.bool b2, .ints z2] = V at B2 hy
  refine ⟨_, fun W hW => (k0.ext hW).loadAt 0 rfl (by kernel_rfl) rfl, _, _, _, _, fun W hW => (k0.ext hW).loadAAt 1 [.bool b, .slice ap an ac] rfl (by kernel_rfl) rfl, _, _, _, _, fun W hW => (k1.ext hW).loadAAt 1 [.bool b2, .slice bp bn bc] rfl (by kernel_rfl) rfl, ?_⟩
  have d2 : (digs V.natAbs).length <= 6 := digs_len_le (by omega)
  refine Ret.at (impl_intNeg_c hy (by omega)) ?_
  rintro v w5 ⟨vs5, f5, hv, ho5, _, y5⟩
  subst hv
  obtain ⟨n0, np, nn, nc, nz, rfl, _, _⟩ := open_Signed ho5.reps (enc_code _)
  have l5 := y5.le
  refine ⟨_, _, _, _, rfl, y5, ?_⟩
  refine Ret.at (impl_intAdd_n (hx.ext y5) ho5.reps B1 (by omega)) ?_
  rintro v w6 ⟨vs6, f6, hv, ho6, nd6, y6⟩
  subst hv
  have Z6 := y5.trans y6
  rw [<- Int.sub_eq_add_neg] at ho6
  obtain ⟨g0, gp, gn, gc, gz, rfl, _, _⟩ := open_Signed ho6.reps (enc_code _)
  have l6 := y6.le
  refine ⟨_, _, _, _, rfl, y6, ?_⟩
  refine Ret.at (impl_moneyOf_s (ht.ext (X4.trans Z6)) c ho6 nd6 (by omega)) ?_
  rintro v w7 ⟨vs7, f7, hv, ho7, nd7, _, y7⟩
  subst hv
  obtain ⟨u0, u1, up, un, uc, uz, rfl, _, _⟩ := open_Money ho7.reps (moneyMk_code _ _)
  obtain ⟨W', st', ld', ow', xx', _, _⟩ := agg_end (t := T_impl_Money) ((k2.ext Z6).ext y7) ((X4.trans Z6).trans y7) (by omega) ho7 (by kernel_rfl) rfl (by omega) (by omega)
  exact ⟨_, _, _, _, _, _, rfl, W', st', _, _, _, _, _, ld', _, f7, rfl, ow', nd7, xx'⟩
end Go.Proofs.YtbgokfhcgcoipaaGreatDoor
namespace Go.Proofs.YtbgokfhcgcoipaaGreatDoor
open Go Go.Proofs.YtbgokfhcgcoipaaGreatDoor.Sx
theorem decOk_parts {b : Bool} {z : List Int} {s : Int} (h : decOk [.bool b, .ints z, .int s] = true) : intOk [.bool b, .ints z] = true /\ natOk z = true /\ Limbs z /\ z.length <= 6 /\ 0 <= s /\ s <= 30 := by
  simp only [decOk, Bool.and_eq_true, decide_eq_true_eq] at h
  obtain ⟨⟨h1, h2⟩, h3⟩ := h
  have h4 : natOk z = true := by
    have := h1
    simp only [intOk, Bool.and_eq_true] at this
    exact this.1
  exact ⟨h1, h4, (natOk_spec.1 h4).1.1, h2, h3⟩
theorem taxOk_nn {b : Bool} {z : List Int} {s : Int} (h : taxOk [.bool b, .ints z, .int s] = true) : ∃ m t : Nat, b = false /\ z = digs m /\ s = (t : Int) /\ t <= 30 /\ (val z).toNat = m /\ s.toNat = t /\ m < 1000000000 := by
  simp only [taxOk, Bool.and_eq_true, decide_eq_true_eq, Bool.not_eq_true'] at h
  obtain ⟨⟨⟨h1, h2⟩, h3⟩, _⟩ := h
  obtain ⟨_, hno, hz, _, h4, h5⟩ := decOk_parts h1
  have hc := (natOk_spec.1 hno).1
  refine ⟨(val z).toNat, s.toNat, h3, (digs_val hc).symm, by omega, by omega, rfl, rfl, ?_⟩
  have hlt := val_lt hz
  have hp : (1000000000 : Int) ^ z.length <= 1000000000 := by
    match z, h2 with
    | [], _ => decide
    | [x], _ =>
      show (1000000000 : Int) ^ 1 <= 1000000000
      decide
    | _ :: _ :: _, h2 => simp at h2
  have := val_nonneg hz
  omega
theorem hundred_len {m : Nat} (h : m < 1000000000) : (digs (m * 100)).length <= 2 := digs_len 2 (by
  have : (1000000000 : Nat) ^ 2 = 1000000000000000000 := by decide
  omega)
theorem one_len {m : Nat} (h : m < 1000000000) : (digs m).length <= 1 := digs_len 1 (by simpa using h)
end Go.Proofs.YtbgokfhcgcoipaaGreatDoor
namespace Go.Proofs.YtbgokfhcgcoipaaGreatDoor
open Go Go.Proofs.YtbgokfhcgcoipaaGreatDoor.Sx
def exN (u : Int) (m t : Nat) : Int := redN (u * redN (m : Int) (10 ^ t)) (1 * redD (m : Int) (10 ^ t))
def exD (u : Int) (m t : Nat) : Nat := redD (u * redN (m : Int) (10 ^ t)) (1 * redD (m : Int) (10 ^ t))
def taxOnT : List D0 -> List D0 -> Int -> Bool × List D0 × List D0
  | [.str c, .bool b, .ints z], [.bool b2, .ints z2, .int s], mode =>
    if moneyOk [.str c, .bool b, .ints z] && taxOk [.bool b2, .ints z2, .int s] then
      (rmOk c (exN (ival [.bool b, .ints z]) (val z2).toNat s.toNat) (exD (ival [.bool b, .ints z]) (val z2).toNat s.toNat) mode,
       rmMoney c (exN (ival [.bool b, .ints z]) (val z2).toNat s.toNat) (exD (ival [.bool b, .ints z]) (val z2).toNat s.toNat) mode,
       rmRest c (exN (ival [.bool b, .ints z]) (val z2).toNat s.toNat) (exD (ival [.bool b, .ints z]) (val z2).toNat s.toNat) mode)
    else (false, zeroMoney, rat0)
  | _, _, _ => (false, zeroMoney, rat0)
theorem rmMoney_code (c : ByteArray) (N : Int) (D : Nat) (m : Int) : (rmMoney c N D m).map D0.code = [.str, .bool, .ints] := by unfold rmMoney; split <;> rfl
theorem restR_code (N : Int) (D : Nat) (m : Int) : (restR N D m).map D0.code = [.bool, .ints, .ints] := redR_code _ _
theorem rmRest_code (c : ByteArray) (N : Int) (D : Nat) (m : Int) : (rmRest c N D m).map D0.code = [.bool, .ints, .ints] := by
  unfold rmRest
  split
  · exact restR_code _ _ _
  · rfl
theorem redR_cnt (n : Int) (d : Nat) : tcnts (redR n d) <= 100 := by
  unfold redR
  split
  · rename_i h
    simp only [redOk, Bool.and_eq_true, decide_eq_true_eq] at h
    simp only [rmk, tcnts, redN_abs]
    have : redD n d = d / Nat.gcd n.natAbs d := rfl
    rw [this]
    omega
  · decide
theorem rmMoney_cnt (c : ByteArray) (N : Int) (D : Nat) (m : Int) : tcnts (rmMoney c N D m) <= 1000000000 := by
  unfold rmMoney
  split
  · rename_i h
    simp only [rmOk, Bool.and_eq_true] at h
    have h2 := h.2
    simp only [moneyOk, enc, Bool.and_eq_true, decide_eq_true_eq] at h2
    simp only [enc, tcnts]
    omega
  · decide
theorem rmRest_cnt (c : ByteArray) (N : Int) (D : Nat) (m : Int) : tcnts (rmRest c N D m) <= 1000000000 := by
  unfold rmRest
  split
  · have := redR_cnt (N * ((1 : Nat) : Int) + -(rround N D m) * (D : Int)) (D * 1)
    unfold restR
    omega
  · decide
theorem taxOnT_facts (d0 d1 : List D0) (m : Int) : ((taxOnT d0 d1 m).2.1).map D0.code = [.str, .bool, .ints] /\ tcnts (taxOnT d0 d1 m).2.1 <= 1000000000 /\ ((taxOnT d0 d1 m).2.2).map D0.code = [.bool, .ints, .ints] /\ tcnts (taxOnT d0 d1 m).2.2 <= 1000000000 := by
  unfold taxOnT
  split
  · split
    · exact ⟨rmMoney_code _ _ _ _, rmMoney_cnt _ _ _ _, rmRest_code _ _ _ _, rmRest_cnt _ _ _ _⟩
    · exact ⟨rfl, by decide, rfl, by decide⟩
  · exact ⟨rfl, by decide, rfl, by decide⟩
theorem ex_facts {u : Int} {m t : Nat} (hu : (digs u.natAbs).length <= 4) (hm : (digs m).length <= 1) (ht : t <= 30) :
    redOk (u * redN (m : Int) (10 ^ t)) (1 * redD (m : Int) (10 ^ t)) = true /\ redR (u * redN (m : Int) (10 ^ t)) (1 * redD (m : Int) (10 ^ t)) = rmk (exN u m t) (exD u m t) /\ ratOk (rmk (exN u m t) (exD u m t)) = true /\ (digs (exN u m t).natAbs).length <= 10 /\ (digs (exD u m t)).length <= 6 /\
    redR (m : Int) (10 ^ t) = rmk (redN (m : Int) (10 ^ t)) (redD (m : Int) (10 ^ t)) /\ ratOk (rmk (redN (m : Int) (10 ^ t)) (redD (m : Int) (10 ^ t))) = true := by
  have hpow : 0 < 10 ^ t := Nat.pow_pos (by decide)
  have hten := ten_len ht
  have h1 : (digs (redN (m : Int) (10 ^ t)).natAbs).length <= 1 := Nat.le_trans redN_len (by rw [Int.natAbs_natCast]; exact hm)
  have h2 : (digs (redD (m : Int) (10 ^ t))).length <= 4 := Nat.le_trans redD_len hten
  have h3 : (digs (u * redN (m : Int) (10 ^ t)).natAbs).length <= 5 := by rw [Int.natAbs_mul]; exact prod_len hu h1
  have h4 : (digs (1 * redD (m : Int) (10 ^ t))).length <= 4 := by rw [Nat.one_mul]; exact h2
  have hd : 0 < redD (m : Int) (10 ^ t) := redD_pos hpow
  have k1 := redOk_small (n := u * redN (m : Int) (10 ^ t)) (d := 1 * redD (m : Int) (10 ^ t)) (by omega) (by omega)
  have k2 := redR_yes k1
  have k3 := redR_ok (n := u * redN (m : Int) (10 ^ t)) (d := 1 * redD (m : Int) (10 ^ t)) (by omega) k1
  have k4 := redOk_small (n := (m : Int)) (d := 10 ^ t) (by rw [Int.natAbs_natCast]; omega) (by omega)
  have k5 := redR_yes k4
  have k6 := redR_ok hpow k4
  have k7 : (digs (exN u m t).natAbs).length <= 5 := Nat.le_trans redN_len h3
  have k8 : (digs (exD u m t)).length <= 4 := Nat.le_trans redD_len h4
  exact ⟨k1, k2, by rw [k2] at k3; exact k3, by omega, by omega, k5, by rw [k5] at k6; exact k6⟩
theorem impl_TaxOn_o {w : World} {xs ys : List Value} {dx dy : List D0} (h : Reps w xs dx) (g : Reps w ys dy) (hc : dx.map D0.code = [.str, .bool, .ints]) (gc : dy.map D0.code = [.bool, .ints, .int]) (mode : Int) (ht : Tab w) :
    Ret P n_impl_TaxOn [.agg ⟨xs⟩, .agg ⟨ys⟩, .int .i64 mode] w fun v w' => ∃ vs0 f0 vs1 f1, v = .tuple #[.agg ⟨vs0⟩, .agg ⟨vs1⟩, .bool (taxOnT dx dy mode).1] /\ Owns w' w.heap.size vs0 (taxOnT dx dy mode).2.1 f0 /\ f0.Nodup /\ Owns w' w.heap.size vs1 (taxOnT dx dy mode).2.2 f1 /\ f1.Nodup /\ (∀ k ∈ f0, k ∉ f1) /\ Ext w w' := by
  have hr := h; have gr := g; have htb := ht
  obtain ⟨cur, a0, ap, an, ac, az, rfl, rfl, ha⟩ := open_Money h hc
  obtain ⟨b0', bp, bn, bc, bz, b2', rfl, rfl, hb⟩ := open_Dec g gc
  refine impl_TaxOn_ret ?_
  unfold impl_TaxOn
  intro r w1 hn1 r1 w2 hn2 r2 w3 hn3 r3 w4 hn4
  have e1 := hn1.r_eq; have e2 := hn2.r_eq; have e3 := hn3.r_eq; have e4 := hn4.r_eq; have z1 := hn1.size; have z2 := hn2.size; have z3 := hn3.size; have z4 := hn4.size
  have X := ((hn1.ext.trans hn2.ext).trans hn3.ext).trans hn4.ext
  have b0 := ((hn1.blk.ext hn2.ext).ext hn3.ext).ext hn4.ext; have b1 := (hn2.blk.ext hn3.ext).ext hn4.ext; have b2 := hn3.blk.ext hn4.ext; have b3 := hn4.blk
  have zero : ∀ W, Ext w4 W -> (moneyOk [.str cur, .bool a0, .ints az] && taxOk [.bool b0', .ints bz, .int b2']) = false -> ∃ W1, Stores P T_impl_Money ⟨r2, 0, none⟩ (.agg ⟨[.string ByteArray.empty, .bool false, .slice none 0 0]⟩) W W1 /\ ∃ W2, Stores P T_impl_Rat ⟨r3, 0, none⟩ (.agg ⟨[.bool false, .slice none 0 0, .slice none 0 0]⟩) W1 W2 /\ Loads P T_impl_Money ⟨r2, 0, none⟩ (.agg ⟨[.string ByteArray.empty, .bool false, .slice none 0 0]⟩) W2 /\ Loads P T_impl_Rat ⟨r3, 0, none⟩ (.agg ⟨[.bool false, .slice none 0 0, .slice none 0 0]⟩) W2 /\ Owns W2 w.heap.size [.string ByteArray.empty, .bool false, .slice none 0 0] zeroMoney [] /\ Owns W2 w.heap.size [.bool false, .slice none 0 0, .slice none 0 0] rat0 [] /\ Ext w W2 /\ taxOnT [.str cur, .bool a0, .ints az] [.bool b0', .ints bz, .int b2'] mode = (false, zeroMoney, rat0) := by
    intro W hW hno
    obtain ⟨W1, W2, a1, _, a2, a3, a4, a5, a6, a7⟩ := two_end (t1 := T_impl_Money) (t2 := T_impl_Rat) (b2.ext hW) (b3.ext hW) (X.trans hW) (own_money0 W (r3 + 1)) (own_rat0 W (r3 + 1)) (by kernel_rfl) rfl (by kernel_rfl) rfl (by omega) (by omega) (by omega) (by omega) (by omega) (by omega)
    exact ⟨W1, a1, W2, a2, a3, a4, a5, a6, a7, by simp only [taxOnT, hno, Bool.false_eq_true, if_false]⟩
  refine ⟨_, _, _, _, _, b0.loadA0 (by kernel_rfl), ?_⟩
  refine Ret.at (impl_MoneyOk_c (ht.ext X) (hr.ext X) rfl) ?_
  rintro v w5 ⟨hv, y5⟩
  subst hv
  refine ⟨_, rfl, ifN (fun hno => ifT ?_) (fun hm => ⟨_, _, _, _, _, (b1.ext y5).loadA0 (by kernel_rfl), ?_⟩)⟩
  · obtain ⟨W1, a1, W2, a2, a3, a4, a5, a6, a7, a8⟩ := zero _ y5 (by rw [hno]; rfl)
    rw [a8]
    exact ⟨W1, a1, W2, a2, _, _, _, _, _, a3, _, _, _, _, _, _, _, a4, _, [], _, [], rfl, a5, List.nodup_nil, a6, List.nodup_nil, fun k hk => by simp at hk, a7⟩
  refine Ret.at (impl_TaxRateOk_c (gr.ext (X.trans y5)) rfl) ?_
  rintro v w6 ⟨hv, y6⟩
  subst hv
  have Y6 := y5.trans y6
  refine ⟨_, rfl, ifN (fun hno => ?_) (fun ht => ?_)⟩
  · obtain ⟨W1, a1, W2, a2, a3, a4, a5, a6, a7, a8⟩ := zero _ Y6 (by rw [hno, Bool.and_false])
    rw [a8]
    exact ⟨W1, a1, W2, a2, _, _, _, _, _, a3, _, _, _, _, _, _, _, a4, _, [], _, [], rfl, a5, List.nodup_nil, a6, List.nodup_nil, fun k hk => by simp at hk, a7⟩
  have hres : taxOnT [.str cur, .bool a0, .ints az] [.bool b0', .ints bz, .int b2'] mode = (rmOk cur (exN (ival [.bool a0, .ints az]) (val bz).toNat b2'.toNat) (exD (ival [.bool a0, .ints az]) (val bz).toNat b2'.toNat) mode, rmMoney cur (exN (ival [.bool a0, .ints az]) (val bz).toNat b2'.toNat) (exD (ival [.bool a0, .ints az]) (val bz).toNat b2'.toNat) mode, rmRest cur (exN (ival [.bool a0, .ints az]) (val bz).toNat b2'.toNat) (exD (ival [.bool a0, .ints az]) (val bz).toNat b2'.toNat) mode) := by
    simp only [taxOnT, hm, ht, Bool.and_self, if_true]
  rw [hres]
  obtain ⟨m, t, rfl, rfl, rfl, ht30, em, et, hm9⟩ := taxOk_nn ht
  rw [em, et]
  have henc := (intOk_enc (moneyOk_int hm)).1
  generalize ival [.bool a0, .ints az] = U at henc
  have hm' : moneyOk (.str cur :: enc U) = true := by rw [<- henc]; exact hm
  have hl4 : (digs U.natAbs).length <= 4 := by
    simp only [moneyOk, enc, Bool.and_eq_true, decide_eq_true_eq] at hm'
    exact hm'.2
  obtain ⟨k1, k2, k3, k4, k5, k6, k7⟩ := ex_facts hl4 (one_len hm9) ht30
  unfold impl_TaxOn_j0
  have D := Ext.drew w6
  have Y := Y6.trans D
  have X7 := X.trans Y
  have lY := Y.le
  have b0 := b0.ext Y; have b1 := b1.ext Y; have b2 := b2.ext Y; have b3 := b3.ext Y
  refine ⟨_, _, _, _, _, fun W hW => (b0.ext hW).loadA0 (by kernel_rfl), ?_⟩
  intro ss w8 F1
  have S1 := (FlSt.start (o := .cells ⟨[.bool false, .slice none 0 0, .slice none 0 0]⟩ T_impl_Rat (0, 0)) w6.drew).step F1
  have hmr : Reps w8 [.string cur, .bool a0, .slice ap an ac] (.str cur :: enc U) := by
    rw [<- henc]
    exact hr.ext (X7.trans S1.1)
  refine Ret.at (impl_MoneyRat_n hmr hm' (htb.ext (X7.trans S1.1))) ?_
  rintro v w9 ⟨vs9, f9, hv, ho9, _, y9⟩
  subst hv
  have hr9 := ho9.reps
  obtain ⟨s0, sp, sn, sc, sz, sp2, sn2, sc2, sz2, rfl, _, _, _⟩ := open_Rat hr9 (rmk_code _ _)
  refine ⟨_, _, _, _, _, _, _, rfl, y9, _, _, _, _, _, fun W hW => (b1.ext hW).loadA0 (by kernel_rfl), ?_⟩
  intro ss1 w10 F2
  have S2 := (S1.ext y9).step F2
  have hdr : Reps w10 [.bool false, .slice bp bn bc, .int .i64 (t : Int)] (dnn m (t : Int)) := gr.ext (X7.trans S2.1)
  refine Ret.at (impl_DecRat_n hdr (Nat.le_trans (one_len hm9) (by decide)) ht30) ?_
  rintro v w11 ⟨vs11, f11, hv, ho11, _, y11⟩
  subst hv
  rw [k6] at ho11
  have hr11 := ho11.reps
  obtain ⟨u0, up, un, uc, uz, up2, un2, uc2, uz2, rfl, _, _, _⟩ := open_Rat hr11 (rmk_code _ _)
  refine ⟨_, _, _, _, _, _, _, rfl, ?_⟩
  intro ss2 w12 F3
  have S3 := (S2.ext y11).step F3
  refine Ret.at (impl_RatMul_n (hr9.ext ((F2.ext.trans y11).trans F3.ext)) (hr11.ext F3.ext) (rmk_int_ok (by omega)) k7) ?_
  rintro v w13 ⟨vs13, f13, hv, ho13, _, y13⟩
  subst hv
  rw [k2] at ho13
  rw [k1]
  have hr13 := ho13.reps
  obtain ⟨g0, gp, gn, gc', gz, gp2, gn2, gc2, gz2, rfl, _, _, _⟩ := open_Rat hr13 (rmk_code _ _)
  refine ⟨_, _, _, _, _, _, _, _, rfl, ?_⟩
  intro ss3 w14 r8 F4 G
  have S4 := (S3.ext y13).step F4
  obtain ⟨hr8, hbk⟩ := S4.get G
  have B8 : Blk w14 r8 T_impl_Rat [.bool false, .slice none 0 0, .slice none 0 0] := hbk
  obtain ⟨w15, st15, hb15, ch15, sz15⟩ := B8.storeA0 (P := P) (t := T_impl_Rat) (xs := [.bool g0, .slice gp gn gc', .slice gp2 gn2 gc2]) (by kernel_rfl) rfl (by simp [Value.oneCell'])
  have hni := Owns.notin B8 (by decide) (ho13.ext F4.ext)
  have ho15 := (ho13.ext F4.ext).chg ch15 (fun k hk hm' => hni (by simp at hm'; rwa [<- hm']))
  have Z : Ext w6.drew w15 := S4.1.chg ch15 (by simp; exact hr8)
  have X15 := X7.trans Z
  have lZ := Z.le
  refine ⟨w15, st15, ?_⟩
  refine ifN (fun hh => absurd hh (by simp)) (fun _ => ?_)
  refine ⟨_, (b0.ext Z).loadAt 0 rfl (by kernel_rfl) rfl, _, _, _, _, _, _, _, hb15.loadA0 (by kernel_rfl), ?_⟩
  refine Ret.at (impl_RatMoney_n (m := mode) cur ho15.reps k3 k4 k5 (htb.ext X15)) ?_
  rintro v w16 ⟨vs16, f16, vsr, fr, hv, ho16, nd16, hor, ndr, dis, y16⟩
  subst hv
  have hr16 := ho16.reps; have hrr := hor.reps
  obtain ⟨m0, m1, mp, mn, mc, mz, rfl, _, _⟩ := open_Money hr16 (rmMoney_code _ _ _ _)
  obtain ⟨v0, vp, vn, vc, vz, vp2, vn2, vc2, vz2, rfl, _, _, _⟩ := open_Rat hrr (rmRest_code _ _ _ _)
  have Y16 := Z.trans y16
  obtain ⟨W1, W2, a1, _, a2, a3, a4, a5, a6, a7⟩ := two_end (t1 := T_impl_Money) (t2 := T_impl_Rat) (b2.ext Y16) (b3.ext Y16) (X7.trans Y16) ho16 hor (by kernel_rfl) rfl (by kernel_rfl) rfl (by omega) (by omega) (by omega) (by omega) (by omega) (by omega)
  exact ⟨_, _, _, _, _, _, _, _, _, _, _, _, _, rfl, W1, a1, W2, a2, _, _, _, _, _, a3, _, _, _, _, _, _, _, a4, _, f16, _, fr, rfl, a5, nd16, a6, ndr, dis, a7⟩
theorem impl_TaxOn_c {w : World} {xs ys : List Value} {dx dy : List D0} (h : Reps w xs dx) (hc : dx.map D0.code = [.str, .bool, .ints]) (g : Reps w ys dy) (gc : dy.map D0.code = [.bool, .ints, .int]) (mode : Int) (ht : Tab w) :
    Ret P n_impl_TaxOn [.agg ⟨xs⟩, .agg ⟨ys⟩, .int .i64 mode] w fun v w' => ∃ vs0 f0 vs1 f1, v = .tuple #[.agg ⟨vs0⟩, .agg ⟨vs1⟩, .bool (taxOnT dx dy mode).1] /\ Owns w' w.heap.size vs0 (taxOnT dx dy mode).2.1 f0 /\ f0.Nodup /\ ((taxOnT dx dy mode).2.1).map D0.code = [.str, .bool, .ints] /\ tcnts (taxOnT dx dy mode).2.1 <= 1000000000 /\ Owns w' w.heap.size vs1 (taxOnT dx dy mode).2.2 f1 /\ f1.Nodup /\ ((taxOnT dx dy mode).2.2).map D0.code = [.bool, .ints, .ints] /\ tcnts (taxOnT dx dy mode).2.2 <= 1000000000 /\ (∀ k ∈ f0, k ∉ f1) /\ Ext w w' :=
  (impl_TaxOn_o h g hc gc mode ht).mono fun v w' ⟨vs0, f0, vs1, f1, hv, o0, n0, o1, n1, dis, hx⟩ => ⟨vs0, f0, vs1, f1, hv, o0, n0, (taxOnT_facts dx dy mode).1, (taxOnT_facts dx dy mode).2.1, o1, n1, (taxOnT_facts dx dy mode).2.2.1, (taxOnT_facts dx dy mode).2.2.2, dis, hx⟩
end Go.Proofs.YtbgokfhcgcoipaaGreatDoor
namespace Go.Proofs.YtbgokfhcgcoipaaGreatDoor
open Go Go.Proofs.YtbgokfhcgcoipaaGreatDoor.Sx
theorem alk_enc {c : ByteArray} {d p : Int} (h : moneyOk (.str c :: enc d) = true) (g : moneyOk (.str c :: enc p) = true) : alk (.str c :: enc d) (.str c :: enc p) = true := by
  have h' : moneyOk [.str c, .bool (decide (d < 0)), .ints (digs d.natAbs)] = true := h
  have g' : moneyOk [.str c, .bool (decide (p < 0)), .ints (digs p.natAbs)] = true := g
  show (moneyOk [.str c, .bool (decide (d < 0)), .ints (digs d.natAbs)] && (moneyOk [.str c, .bool (decide (p < 0)), .ints (digs p.natAbs)] && decide (c = c))) = true
  rw [h', g', decide_eq_true rfl]; rfl
theorem money_len {c : ByteArray} {d : Int} (h : moneyOk (.str c :: enc d) = true) : (digs d.natAbs).length <= 4 := by
  have h' : (curKnown c && intOk (enc d) && decide ((digs d.natAbs).length <= 4)) = true := h
  rw [Bool.and_eq_true, decide_eq_true_eq] at h'
  exact h'.2
theorem redN_nn {n : Int} {d : Nat} (h : 0 <= n) : 0 <= redN n d := by unfold redN; rw [if_neg (by omega)]; exact Int.natCast_nonneg _
theorem impl_MoneyAdd_e {w : World} {xs ys : List Value} {c : ByteArray} {d p : Int} (h : Reps w xs (.str c :: enc d)) (g : Reps w ys (.str c :: enc p)) (okd : moneyOk (.str c :: enc d) = true) (okp : moneyOk (.str c :: enc p) = true) (ht : Tab w) :
    Ret P n_impl_MoneyAdd [.agg ⟨xs⟩, .agg ⟨ys⟩] w fun v w' => ∃ vs f, v = .tuple #[.agg ⟨vs⟩, .bool (moneyOk (.str c :: enc (d + p)))] /\ Owns w' w.heap.size vs (moneyMk c (d + p)) f /\ f.Nodup /\ Ext w w' := by
  have k := impl_MoneyAdd_n h g ht
  change Ret P _ _ _ (fun v w' => ∃ vs f, v = .tuple #[.agg ⟨vs⟩, .bool (mres (alk (.str c :: enc d) (.str c :: enc p)) c (ival (enc d) + ival (enc p))).1] /\ Owns w' w.heap.size vs (mres (alk (.str c :: enc d) (.str c :: enc p)) c (ival (enc d) + ival (enc p))).2 f /\ f.Nodup /\ Ext w w') at k
  rw [alk_enc okd okp, ival_enc, ival_enc] at k
  exact k
theorem impl_MoneySub_e {w : World} {xs ys : List Value} {c : ByteArray} {d p : Int} (h : Reps w xs (.str c :: enc d)) (g : Reps w ys (.str c :: enc p)) (okd : moneyOk (.str c :: enc d) = true) (okp : moneyOk (.str c :: enc p) = true) (ht : Tab w) :
    Ret P n_impl_MoneySub [.agg ⟨xs⟩, .agg ⟨ys⟩] w fun v w' => ∃ vs f, v = .tuple #[.agg ⟨vs⟩, .bool (moneyOk (.str c :: enc (d - p)))] /\ Owns w' w.heap.size vs (moneyMk c (d - p)) f /\ f.Nodup /\ Ext w w' := by
  have k := impl_MoneySub_n h g ht
  change Ret P _ _ _ (fun v w' => ∃ vs f, v = .tuple #[.agg ⟨vs⟩, .bool (mres (alk (.str c :: enc d) (.str c :: enc p)) c (ival (enc d) - ival (enc p))).1] /\ Owns w' w.heap.size vs (mres (alk (.str c :: enc d) (.str c :: enc p)) c (ival (enc d) - ival (enc p))).2 f /\ f.Nodup /\ Ext w w') at k
  rw [alk_enc okd okp, ival_enc, ival_enc] at k
  exact k
theorem enc_cnt {c : ByteArray} {i : Int} (h : moneyOk (.str c :: enc i) = true) : tcnts (.str c :: enc i) <= 1000000 := by
  have := money_len h
  simp only [enc, tcnts]
  omega
end Go.Proofs.YtbgokfhcgcoipaaGreatDoor
namespace Go.Proofs.YtbgokfhcgcoipaaGreatDoor
open Go Go.Proofs.YtbgokfhcgcoipaaGreatDoor.Sx
theorem div_sign {N : Int} {K : Int} {D : Nat} (hK : 0 < K) (hD : 0 < D) : (!(decide (N < 0) == decide (K < 0))) = decide (N * (D : Int) < 0) := by
  rw [decide_eq_false (show ¬ K < 0 by omega)]
  by_cases h : N < 0
  · have := Int.mul_neg_of_neg_of_pos h (show (0 : Int) < D by omega)
    simp [h, this]
  · have := Int.mul_nonneg (show 0 <= N by omega) (show (0 : Int) <= D by omega)
    rw [decide_eq_false h, decide_eq_false (by omega)]; rfl
theorem digs_ne {n : Nat} (h : 0 < n) : (digs n).length ≠ 0 := fun e => by
  have h1 := List.eq_nil_of_length_eq_zero e
  have h2 := val_digs n
  rw [h1] at h2
  have h3 : val [] = 0 := rfl
  rw [h3] at h2; omega
theorem impl_RatDiv_n {w : World} {xs ys : List Value} {N1 N2 : Int} {D1 D2 : Nat} (h : Reps w xs (rmk N1 D1)) (g : Reps w ys (rmk N2 D2)) (hok : ratOk (rmk N1 D1) = true) (gok : ratOk (rmk N2 D2) = true) (hK : 0 < N2) :
    Ret P n_impl_RatDiv [.agg ⟨xs⟩, .agg ⟨ys⟩] w fun v w' => ∃ vs f, v = .tuple #[.agg ⟨vs⟩, .bool (redOk (N1 * (D2 : Int)) (D1 * N2.natAbs))] /\ Owns w' w.heap.size vs (redR (N1 * (D2 : Int)) (D1 * N2.natAbs)) f /\ f.Nodup /\ Ext w w' := by
  have hr := h; have gr := g
  obtain ⟨p1, n1, c1, q1, m1, d1, rfl, i1, i2, li1, li2, he, hd1⟩ := rmk_open h hok
  obtain ⟨p2, n2, c2, q2, m2, d2, rfl, j1, j2, lj1, lj2, ke, hd2⟩ := rmk_open g gok
  have ei1 := i1.1; have ei2 := i2.1; have ej1 := j1.1; have ej2 := j2.1
  have hn0 := digs_ne (show 0 < N2.natAbs by omega)
  have pN := prod_len (x := N1.natAbs) (y := D2) (i := 18) (j := 18) (by omega) (by omega)
  have pD := prod_len (x := D1) (y := N2.natAbs) (i := 18) (j := 18) (by omega) (by omega)
  have eN : (N1 * (D2 : Int)).natAbs = N1.natAbs * D2 := by rw [Int.natAbs_mul, Int.natAbs_natCast]
  refine impl_RatDiv_ret ?_
  unfold impl_RatDiv
  intro r w1 hn1 r1 w2 hn2 r2 w3 hn3
  have e1 := hn1.r_eq; have e2 := hn2.r_eq; have e3 := hn3.r_eq; have z1 := hn1.size; have z2 := hn2.size; have z3 := hn3.size
  have X := (hn1.ext.trans hn2.ext).trans hn3.ext
  have b0 := (hn1.blk.ext hn2.ext).ext hn3.ext; have b1 := hn2.blk.ext hn3.ext; have b2 := hn3.blk
  refine ⟨_, _, _, _, _, _, _, b0.loadA0 (by kernel_rfl), _, _, _, _, _, _, _, b1.loadA0 (by kernel_rfl), ?_⟩
  refine Ret.at (impl_ratsOk_c (hr.ext X) (gr.ext X) hok gok) ?_
  rintro v w4 ⟨hv, y4⟩
  subst hv
  refine ⟨_, rfl, ifN (fun hh => absurd hh (by simp)) (fun _ => ⟨_, _, _, (b1.ext y4).loadAt 1 rfl (by kernel_rfl) rfl, ifD (fun hh => absurd hh (by omega)) (fun _ => ?_)⟩)⟩
  unfold impl_RatDiv_j0
  have D := Ext.drew w4
  have Y := y4.trans D
  have X4 := X.trans Y
  have lY := Y.le
  have b0 := b0.ext Y; have b1 := b1.ext Y; have b2 := b2.ext Y
  refine ⟨_, fun W hW => (b0.ext hW).loadAt 0 rfl (by kernel_rfl) rfl, _, fun W hW => (b1.ext hW).loadAt 0 rfl (by kernel_rfl) rfl, _, _, _, fun W hW => (b0.ext hW).loadAt 1 rfl (by kernel_rfl) rfl, _, _, _, fun W hW => (b1.ext hW).loadAt 2 rfl (by kernel_rfl) rfl, ?_⟩
  refine Ret.at (impl_natMul_c (i1.ext X4) (j2.ext X4) (digs_limbs _) (digs_limbs _) (by omega) (by omega)) ?_
  rintro v w6 ⟨p6, n6, c6, hv, o6, y6⟩
  subst hv
  rw [val_mul] at o6
  have l6 := o6.ints.1
  have l6' := y6.le
  refine ⟨_, _, _, rfl, y6, ?_⟩
  refine Ret.at (impl_signed_c (neg := !(decide (N1 < 0) == decide (N2 < 0))) o6.ints.1) ?_
  rintro v w7 ⟨hv, y7⟩
  subst hv
  have o7 := own_int (b := !(decide (N1 < 0) == decide (N2 < 0))) (o6.ext y7) (z := N1 * (D2 : Int)) eN.symm (fun _ => div_sign hK hd2)
  have l7' := y7.le
  refine ⟨_, _, _, _, rfl, y7, _, _, _, fun W hW => (b0.ext hW).loadAt 2 rfl (by kernel_rfl) rfl, _, _, _, fun W hW => (b1.ext hW).loadAt 1 rfl (by kernel_rfl) rfl, ?_⟩
  refine Ret.at (impl_natMul_c (i2.ext (X4.trans (y6.trans y7))) (j1.ext (X4.trans (y6.trans y7))) (digs_limbs _) (digs_limbs _) (by omega) (by omega)) ?_
  rintro v w8 ⟨p8, n8, c8, hv, o8, y8⟩
  subst hv
  rw [val_mul] at o8
  have l8 := o8.ints.1
  have l8' := y8.le
  have YY := (y6.trans y7).trans y8
  refine ⟨_, _, _, rfl, ?_⟩
  refine Ret.at (impl_reduce_c (o7.reps.ext y8) o8.ints (Nat.mul_pos hd1 (by omega)) (by rw [eN]; omega) (by omega)) ?_
  rintro v w99 ⟨vs9, f9, hv, ho9, nd9, y99⟩
  subst hv
  obtain ⟨zb, zp, zn, zc, zz, zp2, zn2, zc2, zz2, rfl, _, _, _⟩ := open_Rat ho9.reps (redR_code _ _)
  obtain ⟨W', st', ld', ow', xx', _, _⟩ := agg_end (t := T_impl_Rat) ((b2.ext YY).ext y99) ((X4.trans YY).trans y99) (by omega) ho9 (by kernel_rfl) rfl (by omega) (by omega)
  exact ⟨_, _, _, _, _, _, _, _, rfl, W', st', _, _, _, _, _, _, _, ld', _, f9, rfl, ow', nd9, xx'⟩
def inK (m t : Nat) : Int := redN (1 * (redD (m : Int) (10 ^ t) : Int) + redN (m : Int) (10 ^ t) * ((1 : Nat) : Int)) (1 * redD (m : Int) (10 ^ t))
def inE (m t : Nat) : Nat := redD (1 * (redD (m : Int) (10 ^ t) : Int) + redN (m : Int) (10 ^ t) * ((1 : Nat) : Int)) (1 * redD (m : Int) (10 ^ t))
def inN (u : Int) (m t : Nat) : Int := redN (u * (inE m t : Int)) (1 * (inK m t).natAbs)
def inD (u : Int) (m t : Nat) : Nat := redD (u * (inE m t : Int)) (1 * (inK m t).natAbs)
theorem in_facts {u : Int} {m t : Nat} (hu : (digs u.natAbs).length <= 4) (hm : (digs m).length <= 1) (ht : t <= 30) :
    (redR (m : Int) (10 ^ t) = rmk (redN (m : Int) (10 ^ t)) (redD (m : Int) (10 ^ t)) /\ ratOk (rmk (redN (m : Int) (10 ^ t)) (redD (m : Int) (10 ^ t))) = true) /\
    (redOk (1 * (redD (m : Int) (10 ^ t) : Int) + redN (m : Int) (10 ^ t) * ((1 : Nat) : Int)) (1 * redD (m : Int) (10 ^ t)) = true /\ redR (1 * (redD (m : Int) (10 ^ t) : Int) + redN (m : Int) (10 ^ t) * ((1 : Nat) : Int)) (1 * redD (m : Int) (10 ^ t)) = rmk (inK m t) (inE m t) /\ ratOk (rmk (inK m t) (inE m t)) = true /\ 0 < inK m t) /\
    (redOk (u * (inE m t : Int)) (1 * (inK m t).natAbs) = true /\ redR (u * (inE m t : Int)) (1 * (inK m t).natAbs) = rmk (inN u m t) (inD u m t) /\ ratOk (rmk (inN u m t) (inD u m t)) = true /\ (digs (inN u m t).natAbs).length <= 10 /\ (digs (inD u m t)).length <= 6) := by
  have hpow : 0 < 10 ^ t := Nat.pow_pos (by decide)
  have hten := ten_len ht
  have k4 := redOk_small (n := (m : Int)) (d := 10 ^ t) (by rw [Int.natAbs_natCast]; omega) (by omega)
  have k5 := redR_yes k4
  have k6 := redR_ok hpow k4
  have h1 : (digs (redN (m : Int) (10 ^ t)).natAbs).length <= 1 := Nat.le_trans redN_len (by rw [Int.natAbs_natCast]; exact hm)
  have h2 : (digs (redD (m : Int) (10 ^ t))).length <= 4 := Nat.le_trans redD_len hten
  have hd : 0 < redD (m : Int) (10 ^ t) := redD_pos hpow
  have hn : 0 <= redN (m : Int) (10 ^ t) := redN_nn (by omega)
  rw [k5] at k6
  refine ⟨⟨k5, k6⟩, ?_⟩
  have sN : (1 * (redD (m : Int) (10 ^ t) : Int) + redN (m : Int) (10 ^ t) * ((1 : Nat) : Int)) = (redD (m : Int) (10 ^ t) : Int) + redN (m : Int) (10 ^ t) := by rw [Int.one_mul]; show _ + _ * 1 = _; rw [Int.mul_one]
  have s1 : (digs ((redD (m : Int) (10 ^ t) : Int) + redN (m : Int) (10 ^ t)).natAbs).length <= 5 := sum_len (i := 4) (by rw [Int.natAbs_natCast]; exact h2) (by omega)
  have s2 : (digs (1 * redD (m : Int) (10 ^ t))).length <= 4 := by rw [Nat.one_mul]; exact h2
  unfold inN inD
  have hK : 0 < inK m t := by
    unfold inK
    rw [sN, Nat.one_mul]
    have h3 : 0 <= redN ((redD (m : Int) (10 ^ t) : Int) + redN (m : Int) (10 ^ t)) (redD (m : Int) (10 ^ t)) := redN_nn (by omega)
    have h4 : (redN ((redD (m : Int) (10 ^ t) : Int) + redN (m : Int) (10 ^ t)) (redD (m : Int) (10 ^ t))).natAbs ≠ 0 := by
      rw [redN_abs]
      have h5 : 0 < ((redD (m : Int) (10 ^ t) : Int) + redN (m : Int) (10 ^ t)).natAbs := by omega
      have h6 := Nat.div_pos (Nat.le_of_dvd h5 (Nat.gcd_dvd_left ((redD (m : Int) (10 ^ t) : Int) + redN (m : Int) (10 ^ t)).natAbs (redD (m : Int) (10 ^ t)))) (gcd_pos_right hd)
      omega
    omega
  have lK : (digs (inK m t).natAbs).length <= 5 := by
    unfold inK
    refine Nat.le_trans redN_len ?_
    rw [sN]; exact s1
  have lE : (digs (inE m t)).length <= 4 := by
    unfold inE
    exact Nat.le_trans redD_len s2
  have a1 := redOk_small (n := (1 * (redD (m : Int) (10 ^ t) : Int) + redN (m : Int) (10 ^ t) * ((1 : Nat) : Int))) (d := 1 * redD (m : Int) (10 ^ t)) (by rw [sN]; omega) (by omega)
  have a2 := redR_yes a1
  have a3 := redR_ok (n := (1 * (redD (m : Int) (10 ^ t) : Int) + redN (m : Int) (10 ^ t) * ((1 : Nat) : Int))) (d := 1 * redD (m : Int) (10 ^ t)) (by omega) a1
  rw [a2] at a3
  refine ⟨⟨a1, a2, a3, hK⟩, ?_⟩
  have p1 : (digs (u * (inE m t : Int)).natAbs).length <= 8 := by rw [Int.natAbs_mul, Int.natAbs_natCast]; exact prod_len hu lE
  have p2 : (digs (1 * (inK m t).natAbs)).length <= 5 := by rw [Nat.one_mul]; exact lK
  have c1 := redOk_small (n := u * (inE m t : Int)) (d := 1 * (inK m t).natAbs) (by omega) (by omega)
  have c2 := redR_yes c1
  have c3 := redR_ok (n := u * (inE m t : Int)) (d := 1 * (inK m t).natAbs) (by omega) c1
  rw [c2] at c3
  exact ⟨c1, c2, c3, Nat.le_trans redN_len (by omega), Nat.le_trans redD_len (by omega)⟩
def taxInT : List D0 -> List D0 -> Int -> Bool × List D0 × List D0 × List D0
  | [.str c, .bool b, .ints z], [.bool b2, .ints z2, .int s], mode =>
    if (moneyOk [.str c, .bool b, .ints z] && taxOk [.bool b2, .ints z2, .int s]) && (rmOk c (inN (ival [.bool b, .ints z]) (val z2).toNat s.toNat) (inD (ival [.bool b, .ints z]) (val z2).toNat s.toNat) mode && moneyOk (.str c :: enc (ival [.bool b, .ints z] - rround (inN (ival [.bool b, .ints z]) (val z2).toNat s.toNat) (inD (ival [.bool b, .ints z]) (val z2).toNat s.toNat) mode))) then
      (true, .str c :: enc (rround (inN (ival [.bool b, .ints z]) (val z2).toNat s.toNat) (inD (ival [.bool b, .ints z]) (val z2).toNat s.toNat) mode), .str c :: enc (ival [.bool b, .ints z] - rround (inN (ival [.bool b, .ints z]) (val z2).toNat s.toNat) (inD (ival [.bool b, .ints z]) (val z2).toNat s.toNat) mode), restR (inN (ival [.bool b, .ints z]) (val z2).toNat s.toNat) (inD (ival [.bool b, .ints z]) (val z2).toNat s.toNat) mode)
    else (false, zeroMoney, zeroMoney, rat0)
  | _, _, _ => (false, zeroMoney, zeroMoney, rat0)
theorem taxInT_facts (d0 d1 : List D0) (m : Int) : ((taxInT d0 d1 m).2.1).map D0.code = [.str, .bool, .ints] /\ tcnts (taxInT d0 d1 m).2.1 <= 1000000000 /\ ((taxInT d0 d1 m).2.2.1).map D0.code = [.str, .bool, .ints] /\ tcnts (taxInT d0 d1 m).2.2.1 <= 1000000000 /\ ((taxInT d0 d1 m).2.2.2).map D0.code = [.bool, .ints, .ints] /\ tcnts (taxInT d0 d1 m).2.2.2 <= 1000000000 := by
  unfold taxInT
  split
  · split
    · rename_i h
      simp only [Bool.and_eq_true, rmOk] at h
      obtain ⟨_, ⟨_, h1⟩, h2⟩ := h
      have h3 := enc_cnt h1; have h4 := enc_cnt h2
      refine ⟨rfl, Int.le_trans h3 (by decide), rfl, Int.le_trans h4 (by decide), restR_code _ _ _, ?_⟩
      unfold restR
      exact Int.le_trans (redR_cnt _ _) (by decide)
    · exact ⟨rfl, by decide, rfl, by decide, rfl, by decide⟩
  · exact ⟨rfl, by decide, rfl, by decide, rfl, by decide⟩
theorem three_end {t1 t2 t3 : TypeId} {w W : World} {r1 r2 r3 : Nat} {e1 e2 e3 : TypeId} {o1 o2 o3 xs1 xs2 xs3 : List Value} {d1 d2 d3 : List D0} {f1 f2 f3 : List Nat} {B : Nat} (hb1 : Blk W r1 e1 o1) (hb2 : Blk W r2 e2 o2) (hb3 : Blk W r3 e3 o3) (X : Ext w W)
    (ho1 : Owns W B xs1 d1 f1) (ho2 : Owns W B xs2 d2 f2) (ho3 : Owns W B xs3 d3 f3) (ht1 : aggT P t1 xs1.length = true) (hl1 : xs1.length = o1.length) (ht2 : aggT P t2 xs2.length = true) (hl2 : xs2.length = o2.length) (ht3 : aggT P t3 xs3.length = true) (hl3 : xs3.length = o3.length) (hr : w.heap.size <= r1 /\ r1 < r2 /\ r2 < r3 /\ r3 < B) :
    ∃ W1 W2 W3, Stores P t1 ⟨r1, 0, none⟩ (.agg ⟨xs1⟩) W W1 /\ Chg [r1, r2, r3] W W1 /\ Stores P t2 ⟨r2, 0, none⟩ (.agg ⟨xs2⟩) W1 W2 /\ Chg [r1, r2, r3] W1 W2 /\ Stores P t3 ⟨r3, 0, none⟩ (.agg ⟨xs3⟩) W2 W3 /\ Loads P t1 ⟨r1, 0, none⟩ (.agg ⟨xs1⟩) W3 /\ Loads P t2 ⟨r2, 0, none⟩ (.agg ⟨xs2⟩) W3 /\ Loads P t3 ⟨r3, 0, none⟩ (.agg ⟨xs3⟩) W3 /\ Owns W3 w.heap.size xs1 d1 f1 /\ Owns W3 w.heap.size xs2 d2 f2 /\ Owns W3 w.heap.size xs3 d3 f3 /\ Ext w W3 := by
  obtain ⟨h1, h2, h3, h4⟩ := hr
  obtain ⟨W1, st1, b1, ch1, _⟩ := hb1.storeA0 (P := P) (t := t1) (xs := xs1) ht1 hl1 ho1.reps.cells1
  obtain ⟨W2, st2, b2, ch2, _⟩ := (hb2.chg ch1 (by simp; omega)).storeA0 (P := P) (t := t2) (xs := xs2) ht2 hl2 ho2.reps.cells1
  obtain ⟨W3, st3, b3, ch3, _⟩ := ((hb3.chg ch1 (by simp; omega)).chg ch2 (by simp; omega)).storeA0 (P := P) (t := t3) (xs := xs3) ht3 hl3 ho3.reps.cells1
  refine ⟨W1, W2, W3, st1, ch1.mono (fun k hk => by simp at hk ⊢; omega), st2, ch2.mono (fun k hk => by simp at hk ⊢; omega), st3, ((b1.chg ch2 (by simp; omega)).chg ch3 (by simp; omega)).loadA0 ht1, (b2.chg ch3 (by simp; omega)).loadA0 ht2, b3.loadA0 ht3, ?_, ?_, ?_, ?_⟩
  · exact (((ho1.chg1 ch1 (by omega)).chg1 ch2 (by omega)).chg1 ch3 (by omega)).mono (by omega)
  · exact (((ho2.chg1 ch1 (by omega)).chg1 ch2 (by omega)).chg1 ch3 (by omega)).mono (by omega)
  · exact (((ho3.chg1 ch1 (by omega)).chg1 ch2 (by omega)).chg1 ch3 (by omega)).mono (by omega)
  · exact ((X.chg ch1 (by simp; omega)).chg ch2 (by simp; omega)).chg ch3 (by simp; omega)
theorem impl_TaxIn_o {w : World} {xs ys : List Value} {dx dy : List D0} (h : Reps w xs dx) (g : Reps w ys dy) (hc : dx.map D0.code = [.str, .bool, .ints]) (gc : dy.map D0.code = [.bool, .ints, .int]) (mode : Int) (ht : Tab w) :
    Ret P n_impl_TaxIn [.agg ⟨xs⟩, .agg ⟨ys⟩, .int .i64 mode] w fun v w' => ∃ vs0 f0 vs1 f1 vs2 f2, v = .tuple #[.agg ⟨vs0⟩, .agg ⟨vs1⟩, .agg ⟨vs2⟩, .bool (taxInT dx dy mode).1] /\ Owns w' w.heap.size vs0 (taxInT dx dy mode).2.1 f0 /\ f0.Nodup /\ Owns w' w.heap.size vs1 (taxInT dx dy mode).2.2.1 f1 /\ f1.Nodup /\ Owns w' w.heap.size vs2 (taxInT dx dy mode).2.2.2 f2 /\ f2.Nodup /\ (∀ k ∈ f0, k ∉ f1) /\ (∀ k ∈ f0, k ∉ f2) /\ (∀ k ∈ f1, k ∉ f2) /\ Ext w w' := by
  have hr := h; have gr := g
  obtain ⟨cur, a0, ap, an, ac, az, rfl, rfl, ha⟩ := open_Money h hc
  obtain ⟨b0', bp, bn, bc, bz, b2', rfl, rfl, hb⟩ := open_Dec g gc
  refine impl_TaxIn_ret ?_
  unfold impl_TaxIn
  intro r w1 hn1 r1 w2 hn2 r2 w3 hn3 r3 w4 hn4 r4 w5 hn5
  have e1 := hn1.r_eq; have e2 := hn2.r_eq; have e3 := hn3.r_eq; have e4 := hn4.r_eq; have e5 := hn5.r_eq; have z1 := hn1.size; have z2 := hn2.size; have z3 := hn3.size; have z4 := hn4.size; have z5 := hn5.size
  have X := (((hn1.ext.trans hn2.ext).trans hn3.ext).trans hn4.ext).trans hn5.ext
  have q0 := (((hn1.blk.ext hn2.ext).ext hn3.ext).ext hn4.ext).ext hn5.ext; have q1 := ((hn2.blk.ext hn3.ext).ext hn4.ext).ext hn5.ext; have q2 := (hn3.blk.ext hn4.ext).ext hn5.ext; have q3 := hn4.blk.ext hn5.ext; have q4 := hn5.blk
  have zero : ∀ W, Ext w5 W -> taxInT [.str cur, .bool a0, .ints az] [.bool b0', .ints bz, .int b2'] mode = (false, zeroMoney, zeroMoney, rat0) -> ∃ W1, Stores P T_impl_Money ⟨r2, 0, none⟩ (.agg ⟨[.string ByteArray.empty, .bool false, .slice none 0 0]⟩) W W1 /\ ∃ W2, Stores P T_impl_Money ⟨r3, 0, none⟩ (.agg ⟨[.string ByteArray.empty, .bool false, .slice none 0 0]⟩) W1 W2 /\ ∃ W3, Stores P T_impl_Rat ⟨r4, 0, none⟩ (.agg ⟨[.bool false, .slice none 0 0, .slice none 0 0]⟩) W2 W3 /\ Loads P T_impl_Money ⟨r2, 0, none⟩ (.agg ⟨[.string ByteArray.empty, .bool false, .slice none 0 0]⟩) W3 /\ Loads P T_impl_Money ⟨r3, 0, none⟩ (.agg ⟨[.string ByteArray.empty, .bool false, .slice none 0 0]⟩) W3 /\ Loads P T_impl_Rat ⟨r4, 0, none⟩ (.agg ⟨[.bool false, .slice none 0 0, .slice none 0 0]⟩) W3 /\ (fun (v : Value) (w' : World) => ∃ vs0 f0 vs1 f1 vs2 f2, v = .tuple #[.agg ⟨vs0⟩, .agg ⟨vs1⟩, .agg ⟨vs2⟩, .bool (taxInT [.str cur, .bool a0, .ints az] [.bool b0', .ints bz, .int b2'] mode).1] /\ Owns w' w.heap.size vs0 (taxInT [.str cur, .bool a0, .ints az] [.bool b0', .ints bz, .int b2'] mode).2.1 f0 /\ f0.Nodup /\ Owns w' w.heap.size vs1 (taxInT [.str cur, .bool a0, .ints az] [.bool b0', .ints bz, .int b2'] mode).2.2.1 f1 /\ f1.Nodup /\ Owns w' w.heap.size vs2 (taxInT [.str cur, .bool a0, .ints az] [.bool b0', .ints bz, .int b2'] mode).2.2.2 f2 /\ f2.Nodup /\ (∀ k ∈ f0, k ∉ f1) /\ (∀ k ∈ f0, k ∉ f2) /\ (∀ k ∈ f1, k ∉ f2) /\ Ext w w') (.tuple #[.agg ⟨[.string ByteArray.empty, .bool false, .slice none 0 0]⟩, .agg ⟨[.string ByteArray.empty, .bool false, .slice none 0 0]⟩, .agg ⟨[.bool false, .slice none 0 0, .slice none 0 0]⟩, .bool false]) W3 := by
    intro W hW hno
    obtain ⟨W1, W2, W3, a1, _, a2, _, a3, a4, a5, a6, a7, a8, a9, a10⟩ := three_end (t1 := T_impl_Money) (t2 := T_impl_Money) (t3 := T_impl_Rat) (q2.ext hW) (q3.ext hW) (q4.ext hW) (X.trans hW) (own_money0 W (r4 + 1)) (own_money0 W (r4 + 1)) (own_rat0 W (r4 + 1)) (by kernel_rfl) rfl (by kernel_rfl) rfl (by kernel_rfl) rfl ⟨by omega, by omega, by omega, by omega⟩
    rw [hno]
    exact ⟨W1, a1, W2, a2, W3, a3, a4, a5, a6, _, [], _, [], _, [], rfl, a7, List.nodup_nil, a8, List.nodup_nil, a9, List.nodup_nil, fun k hk => by simp at hk, fun k hk => by simp at hk, fun k hk => by simp at hk, a10⟩
  have exit : ∀ W, Ext w5 W -> taxInT [.str cur, .bool a0, .ints az] [.bool b0', .ints bz, .int b2'] mode = (false, zeroMoney, zeroMoney, rat0) -> ∃ W1, Stores P T_impl_Money ⟨r2, 0, none⟩ (.agg ⟨[.string ByteArray.empty, .bool false, .slice none 0 0]⟩) W W1 /\ ∃ W2, Stores P T_impl_Money ⟨r3, 0, none⟩ (.agg ⟨[.string ByteArray.empty, .bool false, .slice none 0 0]⟩) W1 W2 /\ ∃ W3, Stores P T_impl_Rat ⟨r4, 0, none⟩ (.agg ⟨[.bool false, .slice none 0 0, .slice none 0 0]⟩) W2 W3 /\ ∃ (m1s : ByteArray) (m1b : Bool) (m1p : Option Addr) (m1n m1c : Nat), Loads P T_impl_Money ⟨r2, 0, none⟩ (.agg #[.string m1s, .bool m1b, .slice m1p m1n m1c]) W3 /\ ∃ (m2s : ByteArray) (m2b : Bool) (m2p : Option Addr) (m2n m2c : Nat), Loads P T_impl_Money ⟨r3, 0, none⟩ (.agg #[.string m2s, .bool m2b, .slice m2p m2n m2c]) W3 /\ ∃ (qb : Bool) (qp : Option Addr) (qn qc : Nat) (qp2 : Option Addr) (qn2 qc2 : Nat), Loads P T_impl_Rat ⟨r4, 0, none⟩ (.agg #[.bool qb, .slice qp qn qc, .slice qp2 qn2 qc2]) W3 /\ (fun (v : Value) (w' : World) => ∃ vs0 f0 vs1 f1 vs2 f2, v = .tuple #[.agg ⟨vs0⟩, .agg ⟨vs1⟩, .agg ⟨vs2⟩, .bool (taxInT [.str cur, .bool a0, .ints az] [.bool b0', .ints bz, .int b2'] mode).1] /\ Owns w' w.heap.size vs0 (taxInT [.str cur, .bool a0, .ints az] [.bool b0', .ints bz, .int b2'] mode).2.1 f0 /\ f0.Nodup /\ Owns w' w.heap.size vs1 (taxInT [.str cur, .bool a0, .ints az] [.bool b0', .ints bz, .int b2'] mode).2.2.1 f1 /\ f1.Nodup /\ Owns w' w.heap.size vs2 (taxInT [.str cur, .bool a0, .ints az] [.bool b0', .ints bz, .int b2'] mode).2.2.2 f2 /\ f2.Nodup /\ (∀ k ∈ f0, k ∉ f1) /\ (∀ k ∈ f0, k ∉ f2) /\ (∀ k ∈ f1, k ∉ f2) /\ Ext w w') (.tuple #[.agg #[.string m1s, .bool m1b, .slice m1p m1n m1c], .agg #[.string m2s, .bool m2b, .slice m2p m2n m2c], .agg #[.bool qb, .slice qp qn qc, .slice qp2 qn2 qc2], .bool false]) W3 := by
    intro W hW hno
    obtain ⟨W1, a1, W2, a2, W3, a3, a4, a5, a6, a7⟩ := zero W hW hno
    exact ⟨W1, a1, W2, a2, W3, a3, _, _, _, _, _, a4, _, _, _, _, _, a5, _, _, _, _, _, _, _, a6, a7⟩
  refine ⟨_, _, _, _, _, q0.loadA0 (by kernel_rfl), ?_⟩
  refine Ret.at (impl_MoneyOk_c (ht.ext X) (hr.ext X) rfl) ?_
  rintro v w51 ⟨hv, y51⟩
  subst hv
  refine ⟨_, rfl, ifN (fun hno => ifT (exit _ y51 (by simp only [taxInT, hno, Bool.false_and, Bool.false_eq_true, if_false]))) (fun hm => ⟨_, _, _, _, _, (q1.ext y51).loadA0 (by kernel_rfl), ?_⟩)⟩
  refine Ret.at (impl_TaxRateOk_c (gr.ext (X.trans y51)) rfl) ?_
  rintro v w6 ⟨hv, y6⟩
  subst hv
  have Y6 := y51.trans y6
  refine ⟨_, rfl, ifN (fun hno => exit _ Y6 (by simp only [taxInT, hno, Bool.and_false, Bool.false_and, Bool.false_eq_true, if_false])) (fun ht0 => ?_)⟩
  have X6 := X.trans Y6
  have q0 := q0.ext Y6; have q1 := q1.ext Y6
  have hcomp : taxInT [.str cur, .bool a0, .ints az] [.bool b0', .ints bz, .int b2'] mode = if rmOk cur (inN (ival [.bool a0, .ints az]) (val bz).toNat b2'.toNat) (inD (ival [.bool a0, .ints az]) (val bz).toNat b2'.toNat) mode && moneyOk (.str cur :: enc (ival [.bool a0, .ints az] - rround (inN (ival [.bool a0, .ints az]) (val bz).toNat b2'.toNat) (inD (ival [.bool a0, .ints az]) (val bz).toNat b2'.toNat) mode)) then
      (true, .str cur :: enc (rround (inN (ival [.bool a0, .ints az]) (val bz).toNat b2'.toNat) (inD (ival [.bool a0, .ints az]) (val bz).toNat b2'.toNat) mode), .str cur :: enc (ival [.bool a0, .ints az] - rround (inN (ival [.bool a0, .ints az]) (val bz).toNat b2'.toNat) (inD (ival [.bool a0, .ints az]) (val bz).toNat b2'.toNat) mode), restR (inN (ival [.bool a0, .ints az]) (val bz).toNat b2'.toNat) (inD (ival [.bool a0, .ints az]) (val bz).toNat b2'.toNat) mode)
    else (false, zeroMoney, zeroMoney, rat0) := by
    simp only [taxInT, hm, ht0, Bool.true_and, Bool.and_self]
  obtain ⟨m, t, rfl, rfl, rfl, ht30, em, et, hm9⟩ := taxOk_nn ht0
  rw [em, et] at hcomp
  have henc := (intOk_enc (moneyOk_int hm)).1
  have hgr : Reps w [.string cur, .bool a0, .slice ap an ac] (.str cur :: enc (ival [.bool a0, .ints az])) := by rw [<- henc]; exact hr
  have hm' : moneyOk (.str cur :: enc (ival [.bool a0, .ints az])) = true := by rw [<- henc]; exact hm
  generalize hgz : taxInT [.str cur, .bool a0, .ints az] [.bool false, .ints (digs m), .int (t : Int)] mode = TT at hcomp exit ⊢
  clear zero
  generalize ival [.bool a0, .ints az] = N at hgr hm' hcomp
  have hl4 := money_len hm'
  obtain ⟨⟨k1, k2⟩, ⟨k3, k4, k5, k6⟩, k7, k8, k9, k10, k11⟩ := in_facts hl4 (one_len hm9) ht30
  unfold impl_TaxIn_j0
  refine Ret.at (impl_IntOf_c (n := 1) (by omega) (by omega)) ?_
  rintro v w7 ⟨vs7, f7, hv, ho7, _, y7⟩
  subst hv
  obtain ⟨s0, sp, sn, sc, sz, rfl, _, _⟩ := open_Signed ho7.reps (enc_code _)
  refine ⟨_, _, _, _, rfl, ?_⟩
  have one1 : (digs (1 : Int).natAbs).length <= 1 := one_len1
  refine Ret.at (impl_RatInt_n ho7.reps (by omega)) ?_
  rintro v w8 ⟨vs8, f8, hv, ho8, _, y8⟩
  subst hv
  rw [redR_int (z := 1) (by omega)] at ho8
  obtain ⟨i0, ip, in_, ic, iz, ip2, in2, ic2, iz2, rfl, _, _, _⟩ := open_Rat ho8.reps (rmk_code _ _)
  refine ⟨_, _, _, _, _, _, _, _, rfl, ?_⟩
  intro r5 w9 hn9
  have e9 := hn9.r_eq; have z9 := hn9.size
  obtain ⟨w10, st10, b5, y10⟩ := hn9.fill (P := P) (t := T_impl_Rat) ho8.reps.cells1 (by kernel_rfl) rfl
  have D := Ext.drew w10
  have Y := ((y7.trans y8).trans y10).trans D
  have X10 := X6.trans Y
  have lY := Y.le
  refine ⟨w10, st10, _, _, _, _, _, _, _, fun W hW => ((b5.ext D).ext hW).loadA0 (by kernel_rfl), _, _, _, _, _, fun W hW => ((q1.ext Y).ext hW).loadA0 (by kernel_rfl), ?_⟩
  intro ss w11 F1
  have S1 := (FlSt.start (o := .cells ⟨[.bool false, .slice none 0 0, .slice none 0 0]⟩ T_impl_Rat (0, 0)) w10.drew).step F1
  have hdr : Reps w11 [.bool false, .slice bp bn bc, .int .i64 (t : Int)] (dnn m (t : Int)) := gr.ext (X10.trans S1.1)
  refine Ret.at (impl_DecRat_n hdr (Nat.le_trans (one_len hm9) (by decide)) ht30) ?_
  rintro v w12 ⟨vs12, f12, hv, ho12, _, y12⟩
  subst hv
  rw [k1] at ho12
  obtain ⟨u0, up, un, uc, uz, up2, un2, uc2, uz2, rfl, _, _, _⟩ := open_Rat ho12.reps (rmk_code _ _)
  refine ⟨_, _, _, _, _, _, _, rfl, y12, ?_⟩
  intro ss1 w13 F2
  have S2 := (S1.ext y12).step F2
  refine Ret.at (impl_RatAdd_n (ho8.reps.ext ((y10.trans D).trans S2.1)) (ho12.reps.ext F2.ext) (rmk_int_ok (by omega)) k2) ?_
  rintro v w14 ⟨vs14, f14, hv, ho14, _, y14⟩
  subst hv
  rw [k4] at ho14
  rw [k3]
  obtain ⟨g0, gp, gn, gc', gz, gp2, gn2, gc2, gz2, rfl, _, _, _⟩ := open_Rat ho14.reps (rmk_code _ _)
  refine ⟨_, _, _, _, _, _, _, _, rfl, ?_⟩
  intro ss2 w15 r6 F3 G3
  have S3 := (S2.ext y14).step F3
  obtain ⟨hr6, hbk⟩ := S3.get G3
  have B6 : Blk w15 r6 T_impl_Rat [.bool false, .slice none 0 0, .slice none 0 0] := hbk
  obtain ⟨w16, st16, b6, ch16, z16⟩ := B6.storeA0 (P := P) (t := T_impl_Rat) (xs := [.bool g0, .slice gp gn gc', .slice gp2 gn2 gc2]) (by kernel_rfl) rfl (by simp [Value.oneCell'])
  have hni := Owns.notin B6 (by decide) (ho14.ext F3.ext)
  have ho16 := (ho14.ext F3.ext).chg ch16 (fun k hk hm' => hni (by simp at hm'; rwa [<- hm']))
  have Z : Ext w10.drew w16 := S3.1.chg ch16 (by simp; exact hr6)
  have D2 := Ext.drew w16
  have X16 := X10.trans (Z.trans D2)
  have lZ := (Z.trans D2).le
  have YZ := Y.trans (Z.trans D2)
  refine ⟨w16, st16, _, _, _, _, _, fun W hW => ((q0.ext YZ).ext hW).loadA0 (by kernel_rfl), ?_⟩
  intro ss3 w17 F4
  have S4 := (FlSt.start (o := .cells ⟨[.bool false, .slice none 0 0, .slice none 0 0]⟩ T_impl_Rat (0, 0)) w16.drew).step F4
  refine Ret.at (impl_MoneyRat_n (hgr.ext (X16.trans S4.1)) hm' (ht.ext (X16.trans S4.1))) ?_
  rintro v w18 ⟨vs18, f18, hv, ho18, _, y18⟩
  subst hv
  obtain ⟨v0, vp, vn, vc, vz, vp2, vn2, vc2, vz2, rfl, _, _, _⟩ := open_Rat ho18.reps (rmk_code _ _)
  refine ⟨_, _, _, _, _, _, _, rfl, y18, _, _, _, _, _, _, _, fun W hW => ((b6.ext D2).ext hW).loadA0 (by kernel_rfl), ?_⟩
  intro ss4 w19 F5
  have S5 := (S4.ext y18).step F5
  refine Ret.at (impl_RatDiv_n (ho18.reps.ext F5.ext) (ho16.reps.ext (D2.trans S5.1)) (rmk_int_ok (by omega)) k5 k6) ?_
  rintro v w20 ⟨vs20, f20, hv, ho20, _, y20⟩
  subst hv
  rw [k8] at ho20
  rw [k7]
  obtain ⟨x0, xp, xn, xc, xz, xp2, xn2, xc2, xz2, rfl, _, _, _⟩ := open_Rat ho20.reps (rmk_code _ _)
  refine ⟨_, _, _, _, _, _, _, _, rfl, ?_⟩
  intro ss5 w21 r7 F6 G6
  have S6 := (S5.ext y20).step F6
  obtain ⟨hr7, hbk7⟩ := S6.get G6
  have B7 : Blk w21 r7 T_impl_Rat [.bool false, .slice none 0 0, .slice none 0 0] := hbk7
  obtain ⟨w22, st22, b7, ch22, z22⟩ := B7.storeA0 (P := P) (t := T_impl_Rat) (xs := [.bool x0, .slice xp xn xc, .slice xp2 xn2 xc2]) (by kernel_rfl) rfl (by simp [Value.oneCell'])
  have hni7 := Owns.notin B7 (by decide) (ho20.ext F6.ext)
  have ho22 := (ho20.ext F6.ext).chg ch22 (fun k hk hm' => hni7 (by simp at hm'; rwa [<- hm']))
  have Z2 : Ext w16.drew w22 := S6.1.chg ch22 (by simp; exact hr7)
  have X22 := X16.trans Z2
  have lZ2 := Z2.le
  have Y22 := YZ.trans Z2
  refine ⟨w22, st22, _, (q0.ext Y22).loadAt 0 rfl (by kernel_rfl) rfl, _, _, _, _, _, _, _, b7.loadA0 (by kernel_rfl), ?_⟩
  refine Ret.at (impl_RatMoney_n (m := mode) cur ho22.reps k9 k10 k11 (ht.ext X22)) ?_
  generalize inN N m t = NN at *
  generalize inD N m t = DD at *
  rintro v w23 ⟨vs23, f23, vsr, fr, hv, ho23, nd23, hor, ndr, dis, y23⟩
  subst hv
  have l23 := y23.le
  obtain ⟨m0, m1, mp, mn, mc, mz, rfl, hmd, _⟩ := open_Money ho23.reps (rmMoney_code _ _ _ _)
  obtain ⟨j0, jp, jn, jc, jz, jp2, jn2, jc2, jz2, rfl, _, _, _⟩ := open_Rat hor.reps (rmRest_code _ _ _ _)
  refine ⟨_, _, _, _, _, _, _, _, _, _, _, _, _, rfl, ?_⟩
  intro r8 w24 hn24 r9 w25 hn25
  have e24 := hn24.r_eq; have e25 := hn25.r_eq; have z24 := hn24.size; have z25 := hn25.size
  obtain ⟨w26, st26, b8, ch26, z26⟩ := (hn24.blk.ext hn25.ext).storeA0 (P := P) (t := T_impl_Money) (xs := [.string m0, .bool m1, .slice mp mn mc]) (by kernel_rfl) rfl ho23.reps.cells1
  obtain ⟨w27, st27, b9, ch27, z27⟩ := (hn25.blk.chg ch26 (by simp; omega)).storeA0 (P := P) (t := T_impl_Rat) (xs := [.bool j0, .slice jp jn jc, .slice jp2 jn2 jc2]) (by kernel_rfl) rfl hor.reps.cells1
  have Y27 : Ext w23 w27 := ((hn24.ext.trans hn25.ext).chg ch26 (by simp; omega)).chg ch27 (by simp; omega)
  have b8 := b8.chg ch27 (by simp; omega)
  have YA := Y22.trans (y23.trans Y27)
  have X27 := X6.trans YA
  have q0 := q0.ext YA
  have on := ho23.ext Y27; have orr := hor.ext Y27
  refine ⟨w26, st26, w27, st27, _, _, _, _, _, q0.loadA0 (by kernel_rfl), _, _, _, _, _, b8.loadA0 (by kernel_rfl), ?_⟩
  have lYA := YA.le
  rcases hrm : rmOk cur NN DD mode with _ | _
  · rw [hmd] at on
    refine Ret.at (impl_MoneySub_n (hr.ext X27) on.reps (ht.ext X27)) ?_
    rintro v w28 ⟨vs28, f28, hv, o28, nd28, y28⟩
    subst hv
    obtain ⟨t0, t1, tp, tn, tc, tz, rfl, _, _⟩ := open_Money o28.reps (mres_code _ _ _)
    refine ⟨_, _, _, _, _, _, rfl, ?_⟩
    intro r10 w29 hn29
    obtain ⟨w30, st30, b10, y30⟩ := hn29.fill (P := P) (t := T_impl_Money) o28.reps.cells1 (by kernel_rfl) rfl
    exact ⟨w30, st30, ifN (fun hh => absurd hh (by simp)) (fun _ => ifN (fun hh => absurd hh (by simp)) (fun _ => ifN (fun _ => ifT (exit _ (Y6.trans (YA.trans (y28.trans y30))) (by rw [hcomp, hrm, Bool.false_and]; rfl))) (fun hh => absurd hh (by simp))))⟩
  · have em : rmMoney cur NN DD mode = .str cur :: enc (rround NN DD mode) := by unfold rmMoney; rw [hrm]; rfl
    have er : rmRest cur NN DD mode = restR NN DD mode := by unfold rmRest; rw [hrm]; rfl
    rw [em] at on; rw [er] at orr
    have hmm : moneyOk (.str cur :: enc (rround NN DD mode)) = true := by
      simp only [rmOk, Bool.and_eq_true] at hrm; exact hrm.2
    rw [hrm] at hcomp
    clear hmd
    generalize rround NN DD mode = Q at *
    generalize restR NN DD mode = RR at *
    refine Ret.at (impl_MoneySub_e (hgr.ext X27) on.reps hm' hmm (ht.ext X27)) ?_
    rintro v w28 ⟨vs28, f28, hv, o28, nd28, y28⟩
    subst hv
    have l28 := y28.le
    obtain ⟨t0, t1, tp, tn, tc, tz, rfl, _, _⟩ := open_Money o28.reps (moneyMk_code _ _)
    refine ⟨_, _, _, _, _, _, rfl, ?_⟩
    intro r10 w29 hn29
    have e29 := hn29.r_eq; have z29 := hn29.size
    obtain ⟨w30, st30, b10, y30⟩ := hn29.fill (P := P) (t := T_impl_Money) o28.reps.cells1 (by kernel_rfl) rfl
    have l30 := y30.le
    have y28' := y28.trans y30
    have lb8 := b8.lt; have lb9 := b9.lt; have lb10 := b10.lt
    refine ⟨w30, st30, ifN (fun hh => absurd hh (by simp)) (fun _ => ifN (fun hh => absurd hh (by simp)) (fun _ => ifN (fun hh => absurd hh (by simp)) (fun _ => ifN (fun hno => exit _ (Y6.trans (YA.trans y28')) (by rw [hcomp, hno]; rfl)) (fun hyes => ?_))))⟩
    have hmk : moneyMk cur (N - Q) = .str cur :: enc (N - Q) := by rw [moneyMk, if_pos hyes]
    rw [hmk] at o28
    have D3 := Ext.drew w30
    have y3 := y30.trans D3
    have y3' := y28'.trans D3
    have lD3 := D3.le
    have a8 := b8.ext y3'; have a9 := b9.ext y3'; have a10 := b10.ext D3
    have YB := Y6.trans (YA.trans y3')
    have lY6 := Y6.le
    obtain ⟨W1, W2, W3, c1, c2, c3, c4, c5, c6, c7, c8, c9, c10, c11, c12⟩ := three_end (t1 := T_impl_Money) (t2 := T_impl_Money) (t3 := T_impl_Rat) (q2.ext YB) (q3.ext YB) (q4.ext YB) (X.trans YB) ((on.ext y3').mono (Nat.le_refl _)) ((o28.ext y3).mono (show w22.heap.size <= _ by have := y23.le; have := Y27.le; omega)) (orr.ext y3') (by kernel_rfl) rfl (by kernel_rfl) rfl (by kernel_rfl) rfl ⟨by omega, by omega, by omega, by omega⟩
    rw [hcomp]
    simp only [hyes, Bool.and_self, if_true]
    refine ⟨[r2, r3, r4], _, _, _, _, _, fun W hW => (a8.chg (show Chg [r2, r3, r4] w30.drew W from hW) (by simp; omega)).loadA0 (by kernel_rfl), _, _, _, _, _, fun W hW => (a10.chg (show Chg [r2, r3, r4] w30.drew W from hW) (by simp; omega)).loadA0 (by kernel_rfl), _, _, _, _, _, _, _, fun W hW => (a9.chg (show Chg [r2, r3, r4] w30.drew W from hW) (by simp; omega)).loadA0 (by kernel_rfl), W1, c1, c2, W2, c3, c4, W3, c5, _, _, _, _, _, c6, _, _, _, _, _, c7, _, _, _, _, _, _, _, c8, _, f23, _, f28, _, fr, rfl, c9, nd23, c10, nd28, c11, ndr, ?_, dis, ?_, c12⟩
    · intro k hk hk2
      have h1 := (ho23.lt k hk).2; have h2 := (o28.lt k hk2).1; have := Y27.le; omega
    · intro k hk hk2
      have h1 := (hor.lt k hk2).2; have h2 := (o28.lt k hk).1; have := Y27.le; omega
theorem impl_TaxIn_c {w : World} {xs ys : List Value} {dx dy : List D0} (h : Reps w xs dx) (hc : dx.map D0.code = [.str, .bool, .ints]) (g : Reps w ys dy) (gc : dy.map D0.code = [.bool, .ints, .int]) (mode : Int) (ht : Tab w) :
    Ret P n_impl_TaxIn [.agg ⟨xs⟩, .agg ⟨ys⟩, .int .i64 mode] w fun v w' => ∃ vs0 f0 vs1 f1 vs2 f2, v = .tuple #[.agg ⟨vs0⟩, .agg ⟨vs1⟩, .agg ⟨vs2⟩, .bool (taxInT dx dy mode).1] /\ Owns w' w.heap.size vs0 (taxInT dx dy mode).2.1 f0 /\ f0.Nodup /\ ((taxInT dx dy mode).2.1).map D0.code = [.str, .bool, .ints] /\ tcnts (taxInT dx dy mode).2.1 <= 1000000000 /\ Owns w' w.heap.size vs1 (taxInT dx dy mode).2.2.1 f1 /\ f1.Nodup /\ ((taxInT dx dy mode).2.2.1).map D0.code = [.str, .bool, .ints] /\ tcnts (taxInT dx dy mode).2.2.1 <= 1000000000 /\ Owns w' w.heap.size vs2 (taxInT dx dy mode).2.2.2 f2 /\ f2.Nodup /\ ((taxInT dx dy mode).2.2.2).map D0.code = [.bool, .ints, .ints] /\ tcnts (taxInT dx dy mode).2.2.2 <= 1000000000 /\ (∀ k ∈ f0, k ∉ f1) /\ (∀ k ∈ f0, k ∉ f2) /\ (∀ k ∈ f1, k ∉ f2) /\ Ext w w' :=
  (impl_TaxIn_o h g hc gc mode ht).mono fun v w' ⟨vs0, f0, vs1, f1, vs2, f2, hv, o0, n0, o1, n1, o2, n2, d1, d2, d3, hx⟩ => ⟨vs0, f0, vs1, f1, vs2, f2, hv, o0, n0, (taxInT_facts dx dy mode).1, (taxInT_facts dx dy mode).2.1, o1, n1, (taxInT_facts dx dy mode).2.2.1, (taxInT_facts dx dy mode).2.2.2.1, o2, n2, (taxInT_facts dx dy mode).2.2.2.2.1, (taxInT_facts dx dy mode).2.2.2.2.2, d1, d2, d3, hx⟩
end Go.Proofs.YtbgokfhcgcoipaaGreatDoor
