/-
  Parts of the proof of fnFee_holds: CRatB, Tab, CCurr, CWord, CDebtsOk, CBookSum, CUndo, CRestsNeg, CRatC, CRoundA, CRoundB, CMoneySum, CAggM, CRatM, CTaxRateOk, CRatMoney, CRV, CMoneyAS, CPercentL, CTaxOn, CNextRow, CTaxInL, CDraw, CMake, CRateL, LY, CTextN, CDigL, CDecLowO, CDecT, CCutL, CTextNat, CTextDec, CCutI, CJoin, LZ, CCutAt, CTextDecI, CPercent, CTextPcL.
  Conditions: none.
-/
import Derived.Shelf.Strings.Repeat
import Derived.Shelf.Strings.BuilderX
import Derived.Shelf.Strings.OnBuilder
import Derived.Shelf.Strconv.Itoa3
import Derived.Lib.SmallJoins
import Derived.Lib.AppendIntMem
import Derived.Lib.ConvBytes
import Derived.Shelf.Small.Strs
import Derived.Test.YtgbknjdjbahdkaaGreatDoorFe3
set_option linter.unusedVariables false
set_option linter.unusedSimpArgs false
namespace Go.Shelf
end Go.Shelf

namespace Go.Proofs.YtgbknjdjbahdkaaGreatDoor
open Go Go.Proofs.YtgbknjdjbahdkaaGreatDoor.Sx
theorem rmk_open {w : World} {vs : List Value} {N : Int} {D : Nat} (h : Reps w vs (rmk N D)) (hok : ratOk (rmk N D) = true) :
    ∃ p1 n1 c1 p2 n2 c2, vs = [.bool (decide (N < 0)), .slice p1 n1 c1, .slice p2 n2 c2] /\ IntsR w p1 n1 c1 (digs N.natAbs) /\ IntsR w p2 n2 c2 (digs D) /\ n1 <= 18 /\ n2 <= 18 /\ Reps w [.bool (decide (N < 0)), .slice p1 n1 c1] (enc N) /\ 0 < D := by
  have := rat_parts h (rmk_code N D) hok
  have k := (ratOk_enc hok).2.1
  rw [ratNum_rmk, ratDen_rmk] at this
  rw [ratDen_rmk] at k
  obtain ⟨p1, n1, c1, p2, n2, c2, a, b, c, d, e, f⟩ := this
  exact ⟨p1, n1, c1, p2, n2, c2, a, b, c, d, e, f, k⟩
theorem mkS_of {b : Bool} {m : Nat} {z : Int} (hm : m = z.natAbs) (hb : z ≠ 0 -> b = decide (z < 0)) : mkS b (digs m) = enc z := by
  by_cases hz : z = 0
  · subst hz; subst hm; simp [mkS, enc, digs_zero]
  · rw [hb hz, hm]
    unfold mkS enc
    rw [isEmpty_digs]
    have : z.natAbs ≠ 0 := by omega
    simp [this]
theorem mul_sign {x y : Int} (h : x * y ≠ 0) : (!(decide (x < 0) == decide (y < 0))) = decide (x * y < 0) := by
  have hx : x ≠ 0 := fun e => h (by rw [e, Int.zero_mul])
  have hy : y ≠ 0 := fun e => h (by rw [e, Int.mul_zero])
  rcases Int.lt_or_gt_of_ne hx with h1 | h1 <;> rcases Int.lt_or_gt_of_ne hy with h2 | h2
  · have := Int.mul_pos_of_neg_of_neg h1 h2
    simp [h1, h2]; omega
  · have := Int.mul_neg_of_neg_of_pos h1 h2
    have h3 : ¬ y < 0 := by omega
    simp [h1, h3, this]
  · have := Int.mul_neg_of_pos_of_neg h1 h2
    have h3 : ¬ x < 0 := by omega
    simp [h2, h3, this]
  · have := Int.mul_pos h1 h2
    have h3 : ¬ x < 0 := by omega
    have h4 : ¬ y < 0 := by omega
    simp [h3, h4]; omega
theorem val_mul (m k : Nat) : (val (digs m) * val (digs k)).toNat = m * k := by rw [val_digs, val_digs, <- Int.natCast_mul, Int.toNat_natCast]
theorem natCast_enc (k : Nat) : enc (k : Int) = [.bool false, .ints (digs k)] := enc_nat k
theorem own_int {W : World} {B : Nat} {b : Bool} {p : Option Addr} {n c m : Nat} {z : Int} (h : Own W B T_int 1 p n c ((digs m).map (Value.int .i64))) (hm : m = z.natAbs) (hb : z ≠ 0 -> b = decide (z < 0)) :
    Owns W B [.bool (b && !(digs m).isEmpty), .slice p n c] (enc z) (p.map (·.block)).toList := by
  rw [<- mkS_of hm hb]
  exact Owns.int2 h
def FlSt (o : Obj) (w0 : World) (ss : List (Option Nat)) (w : World) : Prop := Ext w0 w /\ (ss = [none] ∨ ∃ r, ss = [some r] /\ w0.heap.size <= r /\ w.heap[r]? = some o)
theorem FlSt.start {o : Obj} (w0 : World) : FlSt o w0 [none] w0 := ⟨Ext.refl _, .inl rfl⟩
theorem FlSt.ext {o : Obj} {w0 w w' : World} {ss : List (Option Nat)} (h : FlSt o w0 ss w) (y : Ext w w') : FlSt o w0 ss w' := by
  refine ⟨h.1.trans y, ?_⟩
  rcases h.2 with h2 | ⟨r, h2, h3, h4⟩
  · exact .inl h2
  · exact .inr ⟨r, h2, h3, (y.block r (Array.getElem?_eq_some_iff.1 h4).1).trans h4⟩
theorem FlSt.step {o : Obj} {w0 w w' : World} {ss ss' : List (Option Nat)} (h : FlSt o w0 ss w) (f : Fl [o] ss w ss' w') : FlSt o w0 ss' w' := by
  refine ⟨h.1.trans f.ext, ?_⟩
  have hl := f.len
  rcases h.2 with h2 | ⟨r, h2, h3, h4⟩
  · subst h2
    match ss', hl, f with
    | [none], _, _ => exact .inl rfl
    | [some r], _, f =>
      obtain ⟨a, b⟩ := f.got (k := 0) rfl rfl rfl
      exact .inr ⟨r, rfl, Nat.le_trans h.1.le a, b⟩
    | [], hl, _ => simp at hl
    | _ :: _ :: _, hl, _ => simp at hl
  · subst h2
    have hk := f.keeps (k := 0) (r := r) rfl
    match ss', hl, hk with
    | [x], _, hk =>
      simp at hk
      subst hk
      exact .inr ⟨r, rfl, h3, (f.ext.block r (Array.getElem?_eq_some_iff.1 h4).1).trans h4⟩
    | [], hl, _ => simp at hl
    | _ :: _ :: _, hl, _ => simp at hl
theorem FlSt.get {o : Obj} {w0 w : World} {ss : List (Option Nat)} {r : Nat} (h : FlSt o w0 ss w) (hr : ss[0]? = some (some r)) : w0.heap.size <= r /\ w.heap[r]? = some o := by
  rcases h.2 with h2 | ⟨r', h2, h3, h4⟩
  · subst h2; simp at hr
  · subst h2
    simp at hr
    subst hr
    exact ⟨h3, h4⟩
theorem impl_ratsOk_c {w : World} {xs ys : List Value} {N1 N2 : Int} {D1 D2 : Nat} (h : Reps w xs (rmk N1 D1)) (g : Reps w ys (rmk N2 D2)) (hok : ratOk (rmk N1 D1) = true) (gok : ratOk (rmk N2 D2) = true) :
    Ret P n_impl_ratsOk [.agg ⟨xs⟩, .agg ⟨ys⟩] w fun v w' => v = .bool true /\ Ext w w' := by
  have hr := h; have gr := g
  obtain ⟨p1, n1, c1, q1, m1, d1, rfl, i1, i2, _, _, he, hd1⟩ := rmk_open h hok
  obtain ⟨p2, n2, c2, q2, m2, d2, rfl, j1, j2, _, _, ke, hd2⟩ := rmk_open g gok
  refine impl_ratsOk_ret ?_
  unfold impl_ratsOk
  intro r w1 hn1 r1 w2 hn2
  have X := hn1.ext.trans hn2.ext
  refine ⟨_, _, _, _, _, _, _, (hn1.blk.ext hn2.ext).loadA0 (by kernel_rfl), ?_⟩
  refine Ret.at (impl_RatOk_c (hr.ext X) (rmk_code _ _)) ?_
  rintro v w3 ⟨hv, y3⟩
  subst hv
  rw [hok]
  refine ⟨_, rfl, ifT ⟨_, _, _, _, _, _, _, (hn2.blk.ext y3).loadA0 (by kernel_rfl), ?_⟩⟩
  refine Ret.at (impl_RatOk_c (gr.ext (X.trans y3)) (rmk_code _ _)) ?_
  rintro v w4 ⟨hv, y4⟩
  subst hv
  rw [gok]
  exact ⟨_, rfl, rfl, (X.trans y3).trans y4⟩
theorem impl_intMul_s {w : World} {xs ys : List Value} {x y : Int} (h : Reps w xs (enc x)) (g : Reps w ys (enc y)) (hx : (digs x.natAbs).length <= 100) (hy : (digs y.natAbs).length <= 100) :
    Ret P n_impl_intMul [.agg ⟨xs⟩, .agg ⟨ys⟩] w fun v w' => ∃ vs f, v = .agg ⟨vs⟩ /\ Owns w' w.heap.size vs (enc (x * y)) f /\ f.Nodup /\ Ext w w' := by
  obtain ⟨a0, ap, an, ac, az, rfl, hd, ha⟩ := open_Signed h (enc_code _)
  simp only [enc, List.cons.injEq, D0.bool.injEq, D0.ints.injEq, and_true] at hd
  obtain ⟨rfl, rfl⟩ := hd
  obtain ⟨b0, bp, bn, bc, bz, rfl, hd, hb⟩ := open_Signed g (enc_code _)
  simp only [enc, List.cons.injEq, D0.bool.injEq, D0.ints.injEq, and_true] at hd
  obtain ⟨rfl, rfl⟩ := hd
  have la := ha.1; have lb := hb.1
  refine impl_intMul_ret ?_
  unfold impl_intMul
  intro r w1 hn1 r1 w2 hn2 r2 w3 hn3
  have e1 := hn1.r_eq; have e2 := hn2.r_eq; have e3 := hn3.r_eq; have z1 := hn1.size; have z2 := hn2.size; have z3 := hn3.size
  have D := Ext.drew w3
  have X := ((hn1.ext.trans hn2.ext).trans hn3.ext).trans D
  have q0 := ((hn1.blk.ext hn2.ext).ext hn3.ext).ext D
  have q1 := (hn2.blk.ext hn3.ext).ext D
  have q2 := hn3.blk.ext D
  have lD := D.le
  refine ⟨_, fun W hW => (q0.ext hW).loadAt 0 rfl (by kernel_rfl) rfl, _, fun W hW => (q1.ext hW).loadAt 0 rfl (by kernel_rfl) rfl, _, _, _, fun W hW => (q0.ext hW).loadAt 1 rfl (by kernel_rfl) rfl, _, _, _, fun W hW => (q1.ext hW).loadAt 1 rfl (by kernel_rfl) rfl, ?_⟩
  refine Ret.at (impl_natMul_c (ha.ext X) (hb.ext X) (digs_limbs _) (digs_limbs _) (by omega) (by omega)) ?_
  rintro v w4 ⟨p', n', c', hv, ho, y4⟩
  subst hv
  rw [val_mul] at ho
  refine ⟨_, _, _, rfl, y4, ?_⟩
  refine Ret.at (impl_signed_c (neg := !(decide (x < 0) == decide (y < 0))) ho.ints.1) ?_
  rintro v w5 ⟨hv, y5⟩
  subst hv
  obtain ⟨W', st, ld, ow, xx, _, _⟩ := agg_end (t := T_impl_Signed) ((q2.ext y4).ext y5) ((X.trans y4).trans y5) (by omega) (own_int (ho.ext y5) (z := x * y) (by rw [Int.natAbs_mul]) mul_sign) (by kernel_rfl) rfl (by omega) (by omega)
  exact ⟨_, _, _, _, rfl, W', st, _, _, _, _, ld, _, _, rfl, ow, nodup_opt p', xx⟩
theorem impl_RatMul_n {w : World} {xs ys : List Value} {N1 N2 : Int} {D1 D2 : Nat} (h : Reps w xs (rmk N1 D1)) (g : Reps w ys (rmk N2 D2)) (hok : ratOk (rmk N1 D1) = true) (gok : ratOk (rmk N2 D2) = true) :
    Ret P n_impl_RatMul [.agg ⟨xs⟩, .agg ⟨ys⟩] w fun v w' => ∃ vs f, v = .tuple #[.agg ⟨vs⟩, .bool (redOk (N1 * N2) (D1 * D2))] /\ Owns w' w.heap.size vs (redR (N1 * N2) (D1 * D2)) f /\ f.Nodup /\ Ext w w' := by
  have hr := h; have gr := g
  obtain ⟨p1, n1, c1, q1, m1, d1, rfl, i1, i2, li1, li2, he, hd1⟩ := rmk_open h hok
  obtain ⟨p2, n2, c2, q2, m2, d2, rfl, j1, j2, lj1, lj2, ke, hd2⟩ := rmk_open g gok
  have ei1 := i1.1; have ei2 := i2.1; have ej1 := j1.1; have ej2 := j2.1
  have pN := prod_len (x := N1.natAbs) (y := N2.natAbs) (i := 18) (j := 18) (by omega) (by omega)
  have pD := prod_len (x := D1) (y := D2) (i := 18) (j := 18) (by omega) (by omega)
  refine impl_RatMul_ret ?_
  unfold impl_RatMul
  intro r w1 hn1 r1 w2 hn2 r2 w3 hn3
  have e1 := hn1.r_eq; have e2 := hn2.r_eq; have e3 := hn3.r_eq; have z1 := hn1.size; have z2 := hn2.size; have z3 := hn3.size
  have X := (hn1.ext.trans hn2.ext).trans hn3.ext
  have b0 := (hn1.blk.ext hn2.ext).ext hn3.ext; have b1 := hn2.blk.ext hn3.ext; have b2 := hn3.blk
  refine ⟨_, _, _, _, _, _, _, b0.loadA0 (by kernel_rfl), _, _, _, _, _, _, _, b1.loadA0 (by kernel_rfl), ?_⟩
  refine Ret.at (impl_ratsOk_c (hr.ext X) (gr.ext X) hok gok) ?_
  rintro v w4 ⟨hv, y4⟩
  subst hv
  refine ⟨_, rfl, ifN (fun hh => absurd hh (by simp)) (fun _ => ?_)⟩
  have D := Ext.drew w4
  have Y := y4.trans D
  have X4 := X.trans Y
  have lY := Y.le
  have b0 := b0.ext Y; have b1 := b1.ext Y; have b2 := b2.ext Y
  refine ⟨_, _, _, _, fun W hW => (b0.ext hW).loadAAt 0 [.bool (decide (N1 < 0)), .slice p1 n1 c1] rfl (by kernel_rfl) rfl, _, _, _, _, fun W hW => (b1.ext hW).loadAAt 0 [.bool (decide (N2 < 0)), .slice p2 n2 c2] rfl (by kernel_rfl) rfl, ?_⟩
  refine Ret.at (impl_intMul_s (he.ext X4) (ke.ext X4) (by omega) (by omega)) ?_
  rintro v w5 ⟨vs5, f5, hv, ho5, _, y5⟩
  subst hv
  obtain ⟨s0, sp, sn, sc, sz, rfl, _, _⟩ := open_Signed ho5.reps (enc_code _)
  refine ⟨_, _, _, _, rfl, y5, _, _, _, fun W hW => (b0.ext hW).loadAt 2 rfl (by kernel_rfl) rfl, _, _, _, fun W hW => (b1.ext hW).loadAt 2 rfl (by kernel_rfl) rfl, ?_⟩
  refine Ret.at (impl_natMul_c (i2.ext (X4.trans y5)) (j2.ext (X4.trans y5)) (digs_limbs _) (digs_limbs _) (by omega) (by omega)) ?_
  rintro v w6 ⟨p6, n6, c6, hv, o6, y6⟩
  subst hv
  rw [val_mul] at o6
  have l6 := o6.ints.1
  have l5 := y5.le; have l6' := y6.le
  refine ⟨_, _, _, rfl, ?_⟩
  refine Ret.at (impl_reduce_c (ho5.reps.ext y6) o6.ints (Nat.mul_pos hd1 hd2) (by rw [Int.natAbs_mul]; omega) (by omega)) ?_
  rintro v w99 ⟨vs9, f9, hv, ho9, nd9, y99⟩
  subst hv
  obtain ⟨zb, zp, zn, zc, zz, zp2, zn2, zc2, zz2, rfl, _, _, _⟩ := open_Rat ho9.reps (redR_code _ _)
  obtain ⟨W', st', ld', ow', xx', _, _⟩ := agg_end (t := T_impl_Rat) (((b2.ext y5).ext y6).ext y99) (((X4.trans y5).trans y6).trans y99) (by omega) ho9 (by kernel_rfl) rfl (by omega) (by omega)
  exact ⟨_, _, _, _, _, _, _, _, rfl, W', st', _, _, _, _, _, _, _, ld', _, f9, rfl, ow', nd9, xx'⟩
  
theorem impl_RatMake_n {w : World} {xs ys : List Value} {x : Int} {k : Nat} (h : Reps w xs (enc x)) (g : Reps w ys (enc (k : Int))) (hx : (digs x.natAbs).length <= 50) (hk : (digs k).length <= 50) (hk0 : 0 < k) :
    Ret P n_impl_RatMake [.agg ⟨xs⟩, .agg ⟨ys⟩] w fun v w' => ∃ vs f, v = .tuple #[.agg ⟨vs⟩, .bool (redOk (x) (k))] /\ Owns w' w.heap.size vs (redR (x) (k)) f /\ f.Nodup /\ Ext w w' := by
  have hr := h; have gr := g
  obtain ⟨a0, p1, n1, c1, az, rfl, hd, i1⟩ := open_Signed h (enc_code _)
  simp only [enc, List.cons.injEq, D0.bool.injEq, D0.ints.injEq, and_true] at hd
  obtain ⟨rfl, rfl⟩ := hd
  rw [natCast_enc] at g
  obtain ⟨b0, p2, n2, c2, bz, rfl, hd, j1⟩ := open_Signed g rfl
  simp only [List.cons.injEq, D0.bool.injEq, D0.ints.injEq, and_true] at hd
  obtain ⟨rfl, rfl⟩ := hd
  have ei1 := i1.1; have ej1 := j1.1
  have ok1 : intOk (enc x) = true := enc_ok hx
  have ok2 : intOk (enc (k : Int)) = true := enc_ok (by rw [Int.natAbs_natCast]; exact hk)
  have hk1 := digs_pos_len.2 (show k ≠ 0 by omega)
  have sg : x ≠ 0 -> (!(decide (x < 0) == false)) = decide (x < 0) := fun _ => by cases decide (x < 0) <;> rfl
  refine impl_RatMake_ret ?_
  unfold impl_RatMake
  intro r w1 hn1 r1 w2 hn2 r2 w3 hn3
  have e1 := hn1.r_eq; have e2 := hn2.r_eq; have e3 := hn3.r_eq; have z1 := hn1.size; have z2 := hn2.size; have z3 := hn3.size
  have X := (hn1.ext.trans hn2.ext).trans hn3.ext
  have b0 := (hn1.blk.ext hn2.ext).ext hn3.ext; have b1 := hn2.blk.ext hn3.ext; have b2 := hn3.blk
  refine ⟨_, _, _, _, b0.loadA0 (by kernel_rfl), _, _, _, _, b1.loadA0 (by kernel_rfl), ?_⟩
  refine Ret.at (impl_intsOk_c (hr.ext X) (gr.ext X) (enc_code _) (enc_code _)) ?_
  rintro v w4 ⟨hv, y4⟩
  subst hv
  rw [ok1, ok2]
  refine ⟨_, rfl, ifN (fun hh => absurd hh (by simp)) (fun _ => ⟨_, _, _, (b1.ext y4).loadAt 1 rfl (by kernel_rfl) rfl, ifD (fun hh => absurd hh (by omega)) (fun _ => ?_)⟩)⟩
  unfold impl_RatMake_j0
  have D := Ext.drew w4
  have Y := y4.trans D
  have X4 := X.trans Y
  have lY := Y.le
  have b0 := b0.ext Y; have b1 := b1.ext Y; have b2 := b2.ext Y
  refine ⟨_, fun W hW => (b0.ext hW).loadAt 0 rfl (by kernel_rfl) rfl, _, fun W hW => (b1.ext hW).loadAt 0 rfl (by kernel_rfl) rfl, _, _, _, fun W hW => (b0.ext hW).loadAt 1 rfl (by kernel_rfl) rfl, ?_⟩
  refine Ret.at (impl_signed_c (neg := !(decide (x < 0) == false)) (i1.ext X4).1) ?_
  rintro v w5 ⟨hv, y5⟩
  subst hv
  have l5 := y5.le
  refine ⟨_, _, _, _, rfl, y5, _, _, _, fun W hW => (b1.ext hW).loadAt 1 rfl (by kernel_rfl) rfl, ?_⟩
  have hs : Reps w5 [.bool ((!(decide (x < 0) == false)) && !(digs x.natAbs).isEmpty), .slice p1 n1 c1] (enc x) := by
    rw [<- mkS_of (b := !(decide (x < 0) == false)) rfl sg]
    exact ⟨rfl, ⟨_, _, _, rfl, i1.ext (X4.trans y5)⟩, trivial⟩
  refine Ret.at (impl_reduce_c hs (j1.ext (X4.trans y5)) hk0 (by omega) (by omega)) ?_
  rintro v w99 ⟨vs9, f9, hv, ho9, nd9, y99⟩
  subst hv
  obtain ⟨zb, zp, zn, zc, zz, zp2, zn2, zc2, zz2, rfl, _, _, _⟩ := open_Rat ho9.reps (redR_code _ _)
  obtain ⟨W', st', ld', ow', xx', _, _⟩ := agg_end (t := T_impl_Rat) ((b2.ext y5).ext y99) ((X4.trans y5).trans y99) (by omega) ho9 (by kernel_rfl) rfl (by omega) (by omega)
  exact ⟨_, _, _, _, _, _, _, _, rfl, W', st', _, _, _, _, _, _, _, ld', _, f9, rfl, ow', nd9, xx'⟩
  
theorem impl_RatInt_n {w : World} {xs : List Value} {x : Int} (h : Reps w xs (enc x)) (hx : (digs x.natAbs).length <= 50) :
    Ret P n_impl_RatInt [.agg ⟨xs⟩] w fun v w' => ∃ vs f, v = .tuple #[.agg ⟨vs⟩, .bool (redOk (x) (1))] /\ Owns w' w.heap.size vs (redR (x) (1)) f /\ f.Nodup /\ Ext w w' := by
  have hr := h
  obtain ⟨a0, p1, n1, c1, az, rfl, hd, i1⟩ := open_Signed h (enc_code _)
  refine impl_RatInt_ret ?_
  unfold impl_RatInt
  intro r w1 hn1 r1 w2 hn2
  have e1 := hn1.r_eq; have e2 := hn2.r_eq; have z1 := hn1.size; have z2 := hn2.size
  have D := Ext.drew w2
  have lD := D.le
  have X := (hn1.ext.trans hn2.ext).trans D
  have b0 := (hn1.blk.ext hn2.ext).ext D; have b1 := hn2.blk.ext D
  refine ⟨_, _, _, _, fun W hW => (b0.ext hW).loadA0 (by kernel_rfl), ?_⟩
  refine Ret.at (impl_IntOf_c (n := 1) (by omega) (by omega)) ?_
  rintro v w3 ⟨vs3, f3, hv, ho3, _, y3⟩
  subst hv
  obtain ⟨s0, sp, sn, sc, sz, rfl, _, _⟩ := open_Signed ho3.reps (enc_code _)
  have l3 := y3.le
  refine ⟨_, _, _, _, rfl, y3, ?_⟩
  refine Ret.at (impl_RatMake_n (k := 1) (hr.ext (X.trans y3)) ho3.reps hx (by rw [digs_one]; decide) (by decide)) ?_
  rintro v w99 ⟨vs9, f9, hv, ho9, nd9, y99⟩
  subst hv
  obtain ⟨zb, zp, zn, zc, zz, zp2, zn2, zc2, zz2, rfl, _, _, _⟩ := open_Rat ho9.reps (redR_code _ _)
  obtain ⟨W', st', ld', ow', xx', _, _⟩ := agg_end (t := T_impl_Rat) ((b1.ext y3).ext y99) ((X.trans y3).trans y99) (by omega) ho9 (by kernel_rfl) rfl (by omega) (by omega)
  exact ⟨_, _, _, _, _, _, _, _, rfl, W', st', _, _, _, _, _, _, _, ld', _, f9, rfl, ow', nd9, xx'⟩
  
end Go.Proofs.YtgbknjdjbahdkaaGreatDoor
namespace Go.Proofs.YtgbknjdjbahdkaaGreatDoor
open Go Go.Proofs.YtgbknjdjbahdkaaGreatDoor.Sx
abbrev CurRow := ByteArray × ByteArray × Int × Int
def implTab : List CurRow := [(S [67, 72, 70], S [55, 53, 54], 2, 5), (S [69, 85, 82], S [57, 55, 56], 2, 1), (S [85, 83, 68], S [56, 52, 48], 2, 1), (S [71, 66, 80], S [56, 50, 54], 2, 1), (S [74, 80, 89], S [51, 57, 50], 0, 1), (S [83, 69, 75], S [55, 53, 50], 2, 100), (S [78, 79, 75], S [53, 55, 56], 2, 100), (S [68, 75, 75], S [50, 48, 56], 2, 50), (S [67, 90, 75], S [50, 48, 51], 2, 100), (S [72, 85, 70], S [51, 52, 56], 2, 500), (S [80, 76, 78], S [57, 56, 53], 2, 1), (S [67, 65, 68], S [49, 50, 52], 2, 5), (S [65, 85, 68], S [48, 51, 54], 2, 5), (S [78, 90, 68], S [53, 53, 52], 2, 10), (S [75, 87, 68], S [52, 49, 52], 3, 5), (S [66, 72, 68], S [48, 52, 56], 3, 5), (S [84, 78, 68], S [55, 56, 56], 3, 10), (S [73, 83, 75], S [51, 53, 50], 0, 1), (S [75, 82, 87], S [52, 49, 48], 0, 10), (S [67, 76, 70], S [57, 57, 48], 4, 1)]
theorem und_T_impl_currency : ∃ fs, Tryz.prog.underlying T_impl_currency = some (.struct fs) := ⟨_, Tryz.underlying146⟩
theorem und_T_20_impl_currency : Tryz.prog.underlying T_20_impl_currency = some (.array 20 T_impl_currency) := Tryz.underlying166
theorem cur_fields : ∃ fs : Array Field, Tryz.prog.underlying T_impl_currency = some (.struct fs) /\ fs.size = 4 /\ (∃ f, fs[0]? = some f /\ f.type = T_string /\ f.offset = 0) /\ (∃ f, fs[1]? = some f /\ f.type = T_string /\ f.offset = 1) /\ (∃ f, fs[2]? = some f /\ f.type = T_int /\ f.offset = 2) /\ (∃ f, fs[3]? = some f /\ f.type = T_int /\ f.offset = 3) :=
  ⟨_, Tryz.underlying146, rfl, ⟨_, rfl, rfl, rfl⟩, ⟨_, rfl, rfl, rfl⟩, ⟨_, rfl, rfl, rfl⟩, ⟨_, rfl, rfl, rfl⟩⟩
abbrev G_d32 : Nat := 5
def L_d32 : List Int := [0, 1, 28, 2, 29, 14, 24, 3, 30, 22, 20, 15, 25, 17, 4, 8, 31, 27, 13, 23, 21, 19, 16, 7, 26, 12, 18, 6, 11, 5, 10, 9]
abbrev G_d64 : Nat := 6
def L_d64 : List Int := [0, 1, 56, 2, 57, 49, 28, 3, 61, 58, 42, 50, 38, 29, 17, 4, 62, 47, 59, 36, 45, 43, 51, 22, 53, 39, 33, 30, 24, 18, 12, 5, 63, 55, 48, 27, 60, 41, 37, 16, 46, 35, 44, 21, 52, 32, 23, 11, 54, 26, 40, 15, 34, 20, 31, 10, 25, 14, 19, 9, 13, 8, 7, 6]
abbrev G_pow : Nat := 4
abbrev TA_pow : Nat := 198
abbrev TE_pow : Nat := 86
def L_pow : List Int := [1, 10, 100, 1000, 10000, 100000, 1000000, 10000000, 100000000, 1000000000, 10000000000, 100000000000, 1000000000000, 10000000000000, 100000000000000, 1000000000000000, 10000000000000000, 100000000000000000, 1000000000000000000, 10000000000000000000]
theorem und_A_pow : Tryz.prog.underlying TA_pow = some (.array 20 TE_pow) := Tryz.underlying198
theorem und_E_pow : Tryz.prog.underlying TE_pow = some (.int .u64) := Tryz.underlying86
abbrev G_cur : Nat := 0
end Go.Proofs.YtgbknjdjbahdkaaGreatDoor
namespace Go.Proofs.YtgbknjdjbahdkaaGreatDoor
open Go Go.Proofs.YtgbknjdjbahdkaaGreatDoor.Sx
def curCells (r : CurRow) : List Value := [.string r.1, .string r.2.1, .int .i64 r.2.2.1, .int .i64 r.2.2.2]
def curZero : CurRow := (ByteArray.empty, ByteArray.empty, 0, 0)
def curFind : List CurRow -> ByteArray -> CurRow
  | [], _ => curZero
  | r :: l, c => if r.1 = c then r else curFind l c
def curIn (l : List CurRow) (c : ByteArray) : Bool := l.any fun r => decide (r.1 = c)
def curKnown (c : ByteArray) : Bool := curIn implTab c
def Tab (w : World) : Prop := Seg w 0 0 (implTab.flatMap curCells)
theorem Tab.ext {w w' : World} (h : Tab w) (he : Ext w w') : Tab w' := Seg.ext h he
theorem curIn_drop {l : List CurRow} {c : ByteArray} {j : Nat} (hj : j < l.length) : curIn (l.drop j) c = (decide ((l[j]'hj).1 = c) || curIn (l.drop (j + 1)) c) := by
  rw [List.drop_eq_getElem_cons hj, curIn, List.any_cons]; rfl
theorem curFind_drop {l : List CurRow} {c : ByteArray} {j : Nat} (hj : j < l.length) : curFind (l.drop j) c = if (l[j]'hj).1 = c then l[j]'hj else curFind (l.drop (j + 1)) c := by
  rw [List.drop_eq_getElem_cons hj, curFind]
theorem flat_row : ∀ (l : List CurRow) (j : Nat) (hj : j < l.length), ((l.flatMap curCells).drop (j * 4)).take 4 = curCells (l[j]'hj)
  | r :: l, 0, _ => by simp [List.flatMap_cons, curCells]
  | r :: l, j + 1, hj => by
    have := flat_row l j (by simpa using hj)
    rw [List.flatMap_cons, show (j + 1) * 4 = 4 + j * 4 by omega, <- List.drop_drop, List.drop_left' (show (curCells r).length = 4 from rfl), this]
    rfl
theorem flat_length : ∀ (l : List CurRow), (l.flatMap curCells).length = l.length * 4
  | [] => rfl
  | r :: l => by rw [List.flatMap_cons, List.length_append, flat_length l, List.length_cons]; simp [curCells]; omega
theorem impl_length : implTab.length = 20 := rfl
set_option maxRecDepth 100000 in
theorem index_cur {j : Nat} (hj : j < implTab.length) {K : Value -> Prop} (h : K (.agg ⟨curCells (implTab[j]'hj)⟩)) : indexS P T_20_impl_currency (.agg ⟨implTab.flatMap curCells⟩) (.int .i64 (j : Nat)) K := by
  have hu : P.underlying T_20_impl_currency = some (.array 20 T_impl_currency) := und_T_20_impl_currency
  have hc : P.cellsOf T_impl_currency = 4 := by kernel_rfl
  obtain ⟨fs, hs⟩ := und_T_impl_currency
  have hs : P.underlying T_impl_currency = some (.struct fs) := hs
  have hl := impl_length
  unfold indexS
  rw [hu]
  refine ⟨⟨by omega, by omega⟩, _, ?_, h⟩
  unfold partS
  rw [hs, hc]
  show Value.agg ⟨((implTab.flatMap curCells).drop (((j : Nat) : Int).toNat * 4)).take 4⟩ = _
  rw [Int.toNat_natCast, flat_row]
set_option maxRecDepth 100000 in
theorem impl_currencyOf_c {w : World} (ht : Tab w) (c : ByteArray) :
    Ret P n_impl_currencyOf [.string c] w fun v w' => v = .tuple #[.agg ⟨curCells (curFind implTab c)⟩, .bool (curKnown c)] /\ Ext w w' := by
  have hlen := impl_length
  refine impl_currencyOf_ret ?_
  unfold impl_currencyOf
  intro r w1 hn1
  have e1 := hn1.r_eq; have s1 := hn1.size
  refine ⟨_, loadsA (by rw [flat_length]; kernel_rfl) (ht.ext hn1.ext), ?_⟩
  refine ⟨fun i wr => ∃ j : Nat, i = j /\ j <= 20 /\ Ext w1 wr /\ curFind implTab c = curFind (implTab.drop j) c /\ curKnown c = curIn (implTab.drop j) c, fun i _ => 20 - i.toNat, ⟨0, rfl, by omega, Ext.refl _, rfl, rfl⟩, ?_⟩
  intro junk wr i ⟨j, hij, hj, hx, hf, hk⟩
  subst hij
  have lx := hx.le
  refine ifD (fun hlt => ?_) (fun hge => ?_)
  · have hjl : j < implTab.length := by omega
    rw [curFind_drop hjl] at hf
    rw [curIn_drop hjl] at hk
    apply index_cur hjl
    intro r1 w2 hn2
    obtain ⟨w3, st, hb3, y3⟩ := hn2.fill (P := P) (t := T_impl_currency) (xs := curCells (implTab[j]'hjl)) (by simp [curCells, Value.oneCell']) (by kernel_rfl) rfl
    refine ⟨w3, st, _, hb3.loadAt 0 rfl (by kernel_rfl) rfl, ifD (fun heq => ?_) (fun hne => ?_)⟩
    · have hf := hf.trans (if_pos heq)
      rw [decide_eq_true heq, Bool.true_or] at hk
      obtain ⟨w4, st4, hb4, ch, sz⟩ := (hn1.blk.ext (hx.trans y3)).storeA0 (P := P) (t := T_impl_currency) (xs := curCells (implTab[j]'hjl)) (by kernel_rfl) rfl (by simp [curCells, Value.oneCell'])
      refine ⟨_, _, _, _, hb3.loadA0 (by kernel_rfl), w4, st4, _, _, _, _, hb4.loadA0 (by kernel_rfl), ?_, ((hn1.ext.trans hx).trans y3).chg ch (by simp; omega)⟩
      rw [hf, hk]; rfl
    · have hf := hf.trans (if_neg hne)
      rw [decide_eq_false hne, Bool.false_or] at hk
      refine exW ⟨by omega, by omega⟩ ⟨⟨j + 1, by omega, by omega, hx.trans y3, hf, hk⟩, ?_⟩
      show 20 - ((j : Int) + 1).toNat < 20 - (j : Int).toNat
      omega
  · rw [List.drop_of_length_le (by omega)] at hf hk
    obtain ⟨w4, st4, hb4, ch, sz⟩ := (hn1.blk.ext hx).storeA0 (P := P) (t := T_impl_currency) (xs := curCells curZero) (by kernel_rfl) rfl (by simp [curCells, Value.oneCell'])
    refine ⟨w4, st4, _, _, _, _, hb4.loadA0 (by kernel_rfl), ?_, (hn1.ext.trans hx).chg ch (by simp; omega)⟩
    rw [hf, hk]; rfl
theorem impl_CurKnown_c {w : World} (ht : Tab w) (c : ByteArray) :
    Ret P n_impl_CurKnown [.string c] w fun v w' => v = .bool (curKnown c) /\ Ext w w' := by
  refine impl_CurKnown_ret ?_
  unfold impl_CurKnown
  refine Ret.at (impl_currencyOf_c ht c) ?_
  rintro v w1 ⟨hv, y1⟩
  subst hv
  refine ⟨_, _, _, _, _, rfl, ?_⟩
  intro r w2 hn2
  obtain ⟨w3, st, hb3, y3⟩ := hn2.fill (P := P) (t := T_impl_currency) (xs := curCells (curFind implTab c)) (by simp [curCells, Value.oneCell']) (by kernel_rfl) rfl
  exact ⟨w3, st, rfl, y1.trans y3⟩
end Go.Proofs.YtgbknjdjbahdkaaGreatDoor
namespace Go.Proofs.YtgbknjdjbahdkaaGreatDoor
open Go Go.Proofs.YtgbknjdjbahdkaaGreatDoor.Sx
theorem impl_isDigit_c (c : Int) (w : World) : Ret P n_impl_isDigit [.int .u8 c] w fun v w' => v = .bool (decide (48 <= c /\ c <= 57)) /\ w' = w := by
  refine impl_isDigit_ret ?_
  unfold impl_isDigit
  refine ifD (fun h => ⟨?_, rfl⟩) (fun h => ⟨?_, rfl⟩) <;> simp [h]
def moneyOk : List D0 -> Bool
  | [.str c, .bool b, .ints z] => curKnown c && intOk [.bool b, .ints z] && decide (z.length <= 4)
  | _ => false
theorem impl_MoneyOk_c {w : World} (ht : Tab w) {xs : List Value} {dx : List D0} (h : Reps w xs dx) (hc : dx.map D0.code = [.str, .bool, .ints]) :
    Ret P n_impl_MoneyOk [.agg ⟨xs⟩] w fun v w' => v = .bool (moneyOk dx) /\ Ext w w' := by
  obtain ⟨t0, a0, a1p, a1n, a1c, a1z, rfl, rfl, ha⟩ := open_Money h hc
  have hl := ha.1
  refine impl_MoneyOk_ret ?_
  unfold impl_MoneyOk
  intro r w1 hn1
  refine ⟨_, hn1.blk.loadAt 0 rfl (by kernel_rfl) rfl, ?_⟩
  refine Ret.at (impl_CurKnown_c (ht.ext hn1.ext) t0) ?_
  rintro v w2 ⟨hv, y2⟩
  subst hv
  have X := hn1.ext.trans y2
  have b := hn1.blk.ext y2
  refine ⟨_, rfl, fun e1 => ?_, fun e1 => ifF ⟨by simp only [moneyOk, e1, Bool.false_and], X⟩⟩
  refine ⟨_, _, _, _, b.loadAAt 1 [.bool a0, .slice a1p a1n a1c] rfl (by kernel_rfl) rfl, ?_⟩
  have hs : Reps w2 [.bool a0, .slice a1p a1n a1c] [.bool a0, .ints a1z] := ⟨rfl, ⟨_, _, _, rfl, ha.ext X⟩, trivial⟩
  refine Ret.at (impl_IntOk_c hs rfl) ?_
  rintro v w3 ⟨hv, y3⟩
  subst hv
  refine ⟨_, rfl, fun e2 => ⟨_, _, _, (b.ext y3).loadAt 2 rfl (by kernel_rfl) rfl, ?_, X.trans y3⟩, fun e2 => ⟨by simp only [moneyOk, e2, Bool.and_false, Bool.false_and], X.trans y3⟩⟩
  simp only [moneyOk, e1, e2, Bool.true_and]
  congr 1
  simp; omega
end Go.Proofs.YtgbknjdjbahdkaaGreatDoor
namespace Go.Proofs.YtgbknjdjbahdkaaGreatDoor
open Go Go.Proofs.YtgbknjdjbahdkaaGreatDoor.Sx
theorem moneyOk_int {c : ByteArray} {b : Bool} {z : List Int} (h : moneyOk [.str c, .bool b, .ints z] = true) : intOk [.bool b, .ints z] = true := by
  simp only [moneyOk, Bool.and_eq_true] at h
  exact h.1.2
end Go.Proofs.YtgbknjdjbahdkaaGreatDoor
namespace Go.Proofs.YtgbknjdjbahdkaaGreatDoor
open Go Go.Proofs.YtgbknjdjbahdkaaGreatDoor.Sx
theorem digs_len_le {n : Nat} (h : n < 1000000000000000000000000000000000000000000000000000000) : (digs n).length <= 6 := digs_len 6 (by omega)
theorem money_bound {c : ByteArray} {b : Bool} {z : List Int} (h : moneyOk [.str c, .bool b, .ints z] = true) : (ival [.bool b, .ints z]).natAbs <= 1000000000000000000000000000000000000 := by
  have hi := moneyOk_int h
  simp only [moneyOk, Bool.and_eq_true, decide_eq_true_eq] at h
  obtain ⟨_, _, _, h1, hc, _⟩ := intOk_enc hi
  simp only [List.cons.injEq, D0.bool.injEq, D0.ints.injEq, and_true] at h1
  obtain ⟨rfl, rfl⟩ := h1
  have hv := val_nonneg hc.1
  have hlt := val_lt hc.1
  have h6 : (1000000000 : Nat) ^ z.length <= 1000000000 ^ 4 := Nat.pow_le_pow_right (by decide) h.2
  have h6' := Int.ofNat_le.2 h6
  rw [Int.natCast_pow, Int.natCast_pow] at h6'
  have h7 : val z < (1000000000 : Int) ^ 4 := Int.lt_of_lt_of_le hlt h6'
  have h8 : ((1000000000 : Int) ^ 4) = 1000000000000000000000000000000000000 := by decide
  rw [h8] at h7
  cases b <;> simp only [ival, if_true, Bool.false_eq_true, if_false] <;> omega
end Go.Proofs.YtgbknjdjbahdkaaGreatDoor
namespace Go.Proofs.YtgbknjdjbahdkaaGreatDoor
open Go Go.Proofs.YtgbknjdjbahdkaaGreatDoor.Sx
def zeroMoney : List D0 := [.str ByteArray.empty, .bool false, .ints []]
def moneyMk (cur : ByteArray) (z : Int) : List D0 := if moneyOk (.str cur :: enc z) then .str cur :: enc z else zeroMoney
theorem moneyMk_code (cur : ByteArray) (z : Int) : (moneyMk cur z).map D0.code = [.str, .bool, .ints] := by unfold moneyMk; split <;> rfl
end Go.Proofs.YtgbknjdjbahdkaaGreatDoor
namespace Go.Proofs.YtgbknjdjbahdkaaGreatDoor
open Go Go.Proofs.YtgbknjdjbahdkaaGreatDoor.Sx
theorem impl_ratNeg_c {w : World} {xs : List Value} {dx : List D0} (h : Reps w xs dx) (hc : dx.map D0.code = [.bool, .ints, .ints]) (hok : ratOk dx = true) :
    Ret P n_impl_ratNeg [.agg ⟨xs⟩] w fun v w' => ∃ vs' f, v = .agg ⟨vs'⟩ /\ Owns w' w.heap.size vs' (rmk (-(ratNum dx)) (ratDen dx)) f /\ f.Nodup /\ Ext w w' := by
  have ok := (ratOk_enc hok).2
  obtain ⟨p1, n1, c1, p2, n2, c2, rfl, i1, i2, g1, g2, he⟩ := rat_parts h hc hok
  refine impl_ratNeg_ret ?_
  unfold impl_ratNeg
  intro r w1 hn1 r1 w2 hn2
  have D := Ext.drew w2
  have X := (hn1.ext.trans hn2.ext).trans D
  have k0 := hn1.blk.ext hn2.ext; have k1 := hn2.blk.ext D
  have e2 := hn2.r_eq; have s1 := hn1.size; have s2 := hn2.size; have lD := D.le
  refine ⟨_, _, _, _, fun W hW => (k0.ext (D.trans hW)).loadAAt 0 [.bool (decide (ratNum dx < 0)), .slice p1 n1 c1] rfl (by kernel_rfl) rfl, ?_⟩
  refine Ret.at (impl_intNeg_c (he.ext X) (by omega)) ?_
  rintro v w3 ⟨vs, f, hv, ho, nd, y3⟩
  subst hv
  obtain ⟨b0, bp, bn, bc, bz, rfl, hq, hbr⟩ := open_Signed ho.reps (enc_code _)
  refine ⟨_, _, _, _, rfl, y3, _, _, _, fun W hW => (k0.ext (D.trans hW)).loadAt 2 rfl (by kernel_rfl) rfl, ?_⟩
  refine Ret.at (impl_natCopy_c (i2.ext (X.trans y3)) (by omega)) ?_
  rintro v w4 ⟨p, c, hv, ho2, y4⟩
  subst hv
  have l3 := y3.le; have l4 := y4.le
  obtain ⟨w5, st, hb5, ch, sz⟩ := ((k1.ext y3).ext y4).storeA0 (P := P) (t := T_impl_Rat) (xs := [.bool b0, .slice bp bn bc, .slice p n2 c]) (by kernel_rfl) rfl (by simp [Value.oneCell'])
  have q1 := (ho.ext y4).chg1 ch (by omega)
  have q2 := (Owns.ints ho2).chg1 ch (by omega)
  refine ⟨_, _, _, rfl, w5, st, _, _, _, _, _, _, _, hb5.loadA0 (by kernel_rfl), _, f ++ (p.map (·.block)).toList, rfl, ?_, ?_, ((X.trans y3).trans y4).chg ch (by simp; omega)⟩
  · rw [rmk_enc]; exact Owns.append (q1.mono (by omega)) (q2.mono (by omega))
  exact nodup_append nd (nodup_opt p) (m := w3.heap.size) (fun k hk => (ho.lt k hk).2) (fun k hk => ((Owns.ints ho2).lt k hk).1)
end Go.Proofs.YtgbknjdjbahdkaaGreatDoor
namespace Go.Proofs.YtgbknjdjbahdkaaGreatDoor
open Go Go.Proofs.YtgbknjdjbahdkaaGreatDoor.Sx
theorem lt_of_len {x i : Nat} (h : (digs x).length <= i) : x < 1000000000 ^ i := by
  have h1 := val_lt (digs_limbs x)
  rw [val_digs] at h1
  have : ((x : Nat) : Int) < ((1000000000 ^ (digs x).length : Nat) : Int) := by simpa using h1
  exact Nat.lt_of_lt_of_le (Int.ofNat_lt.1 this) (Nat.pow_le_pow_right (by decide) h)
theorem sum_len {x y : Int} {i : Nat} (hx : (digs x.natAbs).length <= i) (hy : (digs y.natAbs).length <= i) : (digs (x + y).natAbs).length <= i + 1 := by
  apply digs_len
  have h1 := lt_of_len hx; have h2 := lt_of_len hy
  have h3 : (x + y).natAbs <= x.natAbs + y.natAbs := Int.natAbs_add_le x y
  rw [Nat.pow_succ]
  omega
theorem ratOk_neg {N : Int} {D : Nat} (h : ratOk (rmk N D) = true) : ratOk (rmk (-N) D) = true := by
  obtain ⟨_, h1, h2, h3, h4⟩ := ratOk_enc h
  rw [ratNum_rmk] at h2 h3
  rw [ratDen_rmk] at h1 h2 h4
  exact ratOk_rmk h1 (by rw [Int.natAbs_neg]; exact h2) (by rw [Int.natAbs_neg]; exact h3) h4
theorem cross_len {N : Int} {E : Nat} (hN : (digs N.natAbs).length <= 18) (hE : (digs E).length <= 18) : (digs (N * (E : Int)).natAbs).length <= 36 := by
  rw [Int.natAbs_mul, Int.natAbs_natCast]
  exact prod_len hN hE
theorem impl_Rat_num_n {w : World} {xs : List Value} {N : Int} {D E : Nat} {p : Option Addr} {m c : Nat} (h : Reps w xs (rmk N D)) (hok : ratOk (rmk N D) = true) (k : IntsR w p m c (digs E)) (hm : m <= 100) :
    Ret P n_impl_Rat_num [.agg ⟨xs⟩, .slice p m c] w fun v w' => ∃ vs f, v = .agg ⟨vs⟩ /\ Owns w' w.heap.size vs (enc (N * E)) f /\ f.Nodup /\ Ext w w' := by
  obtain ⟨p1, n1, c1, q1, m1, d1, rfl, i1, i2, li1, li2, he, hd1⟩ := rmk_open h hok
  have ei1 := i1.1; have ek := k.1
  refine impl_Rat_num_ret ?_
  unfold impl_Rat_num
  intro r w1 hn1 r1 w2 hn2
  have e1 := hn1.r_eq; have e2 := hn2.r_eq; have z1 := hn1.size; have z2 := hn2.size
  have D := Ext.drew w2
  have lD := D.le
  have X := (hn1.ext.trans hn2.ext).trans D
  have b0 := (hn1.blk.ext hn2.ext).ext D; have b1 := hn2.blk.ext D
  refine ⟨_, fun W hW => (b0.ext hW).loadAt 0 rfl (by kernel_rfl) rfl, _, _, _, fun W hW => (b0.ext hW).loadAt 1 rfl (by kernel_rfl) rfl, ?_⟩
  refine Ret.at (impl_natMul_c (i1.ext X) (k.ext X) (digs_limbs _) (digs_limbs _) (by omega) (by omega)) ?_
  rintro v w4 ⟨p4, n4, c4, hv, o4, y4⟩
  subst hv
  rw [val_mul] at o4
  refine ⟨_, _, _, rfl, y4, ?_⟩
  refine Ret.at (impl_signed_c (neg := decide (N < 0)) o4.ints.1) ?_
  rintro v w5 ⟨hv, y5⟩
  subst hv
  have sg : N * (E : Int) ≠ 0 -> decide (N < 0) = decide (N * (E : Int) < 0) := fun hh => by
    have := mul_sign hh
    rw [<- this, decide_eq_false (show ¬ (E : Int) < 0 by omega)]
    cases decide (N < 0) <;> rfl
  obtain ⟨W', st, ld, ow, xx, _, _⟩ := agg_end (t := T_impl_Signed) ((b1.ext y4).ext y5) ((X.trans y4).trans y5) (by omega) (own_int (o4.ext y5) (z := N * (E : Int)) (by rw [Int.natAbs_mul, Int.natAbs_natCast]) sg) (by kernel_rfl) rfl (by omega) (by omega)
  exact ⟨_, _, _, _, rfl, W', st, _, _, _, _, ld, _, _, rfl, ow, nodup_opt p4, xx⟩
theorem impl_RatAdd_n {w : World} {xs ys : List Value} {N1 N2 : Int} {D1 D2 : Nat} (h : Reps w xs (rmk N1 D1)) (g : Reps w ys (rmk N2 D2)) (hok : ratOk (rmk N1 D1) = true) (gok : ratOk (rmk N2 D2) = true) :
    Ret P n_impl_RatAdd [.agg ⟨xs⟩, .agg ⟨ys⟩] w fun v w' => ∃ vs f, v = .tuple #[.agg ⟨vs⟩, .bool (redOk (N1 * D2 + N2 * D1) (D1 * D2))] /\ Owns w' w.heap.size vs (redR (N1 * D2 + N2 * D1) (D1 * D2)) f /\ f.Nodup /\ Ext w w' := by
  have hr := h; have gr := g
  obtain ⟨p1, n1, c1, q1, m1, d1, rfl, i1, i2, li1, li2, he, hd1⟩ := rmk_open h hok
  obtain ⟨p2, n2, c2, q2, m2, d2, rfl, j1, j2, lj1, lj2, ke, hd2⟩ := rmk_open g gok
  have ei1 := i1.1; have ei2 := i2.1; have ej1 := j1.1; have ej2 := j2.1
  have pN := prod_len (x := N1.natAbs) (y := N2.natAbs) (i := 18) (j := 18) (by omega) (by omega)
  have pD := prod_len (x := D1) (y := D2) (i := 18) (j := 18) (by omega) (by omega)
  refine impl_RatAdd_ret ?_
  unfold impl_RatAdd
  intro r w1 hn1 r1 w2 hn2 r2 w3 hn3
  have e1 := hn1.r_eq; have e2 := hn2.r_eq; have e3 := hn3.r_eq; have z1 := hn1.size; have z2 := hn2.size; have z3 := hn3.size
  have X := (hn1.ext.trans hn2.ext).trans hn3.ext
  have b0 := (hn1.blk.ext hn2.ext).ext hn3.ext; have b1 := hn2.blk.ext hn3.ext; have b2 := hn3.blk
  refine ⟨_, _, _, _, _, _, _, b0.loadA0 (by kernel_rfl), _, _, _, _, _, _, _, b1.loadA0 (by kernel_rfl), ?_⟩
  refine Ret.at (impl_ratsOk_c (hr.ext X) (gr.ext X) hok gok) ?_
  rintro v w4 ⟨hv, y4⟩
  subst hv
  refine ⟨_, rfl, ifN (fun hh => absurd hh (by simp)) (fun _ => ?_)⟩
  have D := Ext.drew w4
  have Y := y4.trans D
  have X4 := X.trans Y
  have lY := Y.le
  have b0 := b0.ext Y; have b1 := b1.ext Y; have b2 := b2.ext Y
  have D' := Ext.drew w4.drew
  have X5 := X4.trans D'
  have lD' := D'.le
  have b0' := b0.ext D'; have b1' := b1.ext D'; have b2' := b2.ext D'
  refine ⟨_, _, _, _, _, _, _, fun W hW => (b0.ext hW).loadA0 (by kernel_rfl), _, _, _, _, _, _, _, fun W hW => (b1.ext hW).loadA0 (by kernel_rfl), _, _, _, fun W hW => (b1'.ext hW).loadAt 2 rfl (by kernel_rfl) rfl, _, _, _, rfl, by kernel_rfl, ?_⟩
  refine Calls.mono (impl_Rat_num_n (hr.ext X5) hok (j2.ext X5) (by omega)) ?_
  rintro e w5 ⟨v, he5, vs5, f5, hv, ho5, _, y5⟩
  subst hv
  obtain ⟨s0, sp, sn, sc, sz, rfl, _, _⟩ := open_Signed ho5.reps (enc_code _)
  refine ⟨_, _, _, _, he5, y5, _, _, _, fun W hW => (b0'.ext hW).loadAt 2 rfl (by kernel_rfl) rfl, _, _, _, rfl, by kernel_rfl, ?_⟩
  refine Calls.mono (impl_Rat_num_n (gr.ext (X5.trans y5)) gok (i2.ext (X5.trans y5)) (by omega)) ?_
  rintro e w6 ⟨v, he6, vs6, f6, hv, ho6, _, y6⟩
  subst hv
  obtain ⟨u0, up, un, uc, uz, rfl, _, _⟩ := open_Signed ho6.reps (enc_code _)
  refine ⟨_, _, _, _, he6, y6, ?_⟩
  have t1 := cross_len (N := N1) (E := D2) (by omega) (by omega)
  have t2 := cross_len (N := N2) (E := D1) (by omega) (by omega)
  have t3 := sum_len t1 t2
  refine Ret.at (impl_intAdd_c (ho5.reps.ext y6) ho6.reps (by omega) (by omega)) ?_
  rintro v w7 ⟨p7, n7, c7, hv, o7, y7⟩
  subst hv
  refine ⟨_, _, _, _, rfl, y7, _, _, _, fun W hW => (b0'.ext hW).loadAt 2 rfl (by kernel_rfl) rfl, _, _, _, fun W hW => (b1'.ext hW).loadAt 2 rfl (by kernel_rfl) rfl, ?_⟩
  have Y7 := (y5.trans y6).trans y7
  refine Ret.at (impl_natMul_c (i2.ext (X5.trans Y7)) (j2.ext (X5.trans Y7)) (digs_limbs _) (digs_limbs _) (by omega) (by omega)) ?_
  rintro v w8 ⟨p8, n8, c8, hv, o8, y8⟩
  subst hv
  rw [val_mul] at o8
  have l8 := o8.ints.1
  have lY7 := Y7.le; have ly8 := y8.le
  refine ⟨_, _, _, rfl, ?_⟩
  have hs : Reps w8 [.bool (decide (N1 * (D2 : Int) + N2 * (D1 : Int) < 0)), .slice p7 n7 c7] (enc (N1 * D2 + N2 * D1)) := ⟨rfl, ⟨_, _, _, rfl, o7.ints.ext y8⟩, trivial⟩
  refine Ret.at (impl_reduce_c hs o8.ints (Nat.mul_pos hd1 hd2) (by omega) (by omega)) ?_
  rintro v w99 ⟨vs9, f9, hv, ho9, nd9, y99⟩
  subst hv
  obtain ⟨zb, zp, zn, zc, zz, zp2, zn2, zc2, zz2, rfl, _, _, _⟩ := open_Rat ho9.reps (redR_code _ _)
  obtain ⟨W', st', ld', ow', xx', _, _⟩ := agg_end (t := T_impl_Rat) (((b2'.ext Y7).ext y8).ext y99) (((X5.trans Y7).trans y8).trans y99) (by omega) ho9 (by kernel_rfl) rfl (by omega) (by omega)
  exact ⟨_, _, _, _, _, _, _, _, rfl, W', st', _, _, _, _, _, _, _, ld', _, f9, rfl, ow', nd9, xx'⟩
  
theorem impl_RatSub_n {w : World} {xs ys : List Value} {N1 N2 : Int} {D1 D2 : Nat} (h : Reps w xs (rmk N1 D1)) (g : Reps w ys (rmk N2 D2)) (hok : ratOk (rmk N1 D1) = true) (gok : ratOk (rmk N2 D2) = true) :
    Ret P n_impl_RatSub [.agg ⟨xs⟩, .agg ⟨ys⟩] w fun v w' => ∃ vs f, v = .tuple #[.agg ⟨vs⟩, .bool (redOk (N1 * D2 + -N2 * D1) (D1 * D2))] /\ Owns w' w.heap.size vs (redR (N1 * D2 + -N2 * D1) (D1 * D2)) f /\ f.Nodup /\ Ext w w' := by
  have hr := h; have gr := g
  obtain ⟨p1, n1, c1, q1, m1, d1, rfl, i1, i2, li1, li2, he, hd1⟩ := rmk_open h hok
  obtain ⟨p2, n2, c2, q2, m2, d2, rfl, j1, j2, lj1, lj2, ke, hd2⟩ := rmk_open g gok
  have ei1 := i1.1; have ei2 := i2.1; have ej1 := j1.1; have ej2 := j2.1
  have pN := prod_len (x := N1.natAbs) (y := N2.natAbs) (i := 18) (j := 18) (by omega) (by omega)
  have pD := prod_len (x := D1) (y := D2) (i := 18) (j := 18) (by omega) (by omega)
  refine impl_RatSub_ret ?_
  unfold impl_RatSub
  intro r w1 hn1 r1 w2 hn2 r2 w3 hn3
  have e1 := hn1.r_eq; have e2 := hn2.r_eq; have e3 := hn3.r_eq; have z1 := hn1.size; have z2 := hn2.size; have z3 := hn3.size
  have X := (hn1.ext.trans hn2.ext).trans hn3.ext
  have b0 := (hn1.blk.ext hn2.ext).ext hn3.ext; have b1 := hn2.blk.ext hn3.ext; have b2 := hn3.blk
  refine ⟨_, _, _, _, _, _, _, b0.loadA0 (by kernel_rfl), _, _, _, _, _, _, _, b1.loadA0 (by kernel_rfl), ?_⟩
  refine Ret.at (impl_ratsOk_c (hr.ext X) (gr.ext X) hok gok) ?_
  rintro v w4 ⟨hv, y4⟩
  subst hv
  refine ⟨_, rfl, ifN (fun hh => absurd hh (by simp)) (fun _ => ?_)⟩
  have D := Ext.drew w4
  have Y := y4.trans D
  have X4 := X.trans Y
  have lY := Y.le
  have b0 := b0.ext Y; have b1 := b1.ext Y; have b2 := b2.ext Y
  refine ⟨_, _, _, _, _, _, _, fun W hW => (b0.ext hW).loadA0 (by kernel_rfl), _, _, _, _, _, _, _, fun W hW => (b1.ext hW).loadA0 (by kernel_rfl), ?_⟩
  refine Ret.at (impl_ratNeg_c (gr.ext X4) (rmk_code _ _) gok) ?_
  rintro v w5 ⟨vs5, f5, hv, ho5, _, y5⟩
  subst hv
  rw [ratNum_rmk, ratDen_rmk] at ho5
  have hr5 := ho5.reps
  obtain ⟨s0, sp, sn, sc, sz, sp2, sn2, sc2, sz2, rfl, _, _, _⟩ := open_Rat hr5 (rmk_code _ _)
  have l5 := y5.le
  refine ⟨_, _, _, _, _, _, _, rfl, y5, ?_⟩
  refine Ret.at (impl_RatAdd_n (hr.ext (X4.trans y5)) hr5 hok (ratOk_neg gok)) ?_
  rintro v w99 ⟨vs9, f9, hv, ho9, nd9, y99⟩
  subst hv
  obtain ⟨zb, zp, zn, zc, zz, zp2, zn2, zc2, zz2, rfl, _, _, _⟩ := open_Rat ho9.reps (redR_code _ _)
  obtain ⟨W', st', ld', ow', xx', _, _⟩ := agg_end (t := T_impl_Rat) ((b2.ext y5).ext y99) ((X4.trans y5).trans y99) (by omega) ho9 (by kernel_rfl) rfl (by omega) (by omega)
  exact ⟨_, _, _, _, _, _, _, _, rfl, W', st', _, _, _, _, _, _, _, ld', _, f9, rfl, ow', nd9, xx'⟩
  
end Go.Proofs.YtgbknjdjbahdkaaGreatDoor
namespace Go.Proofs.YtgbknjdjbahdkaaGreatDoor
open Go Go.Proofs.YtgbknjdjbahdkaaGreatDoor.Sx
theorem digs_one_r {W : World} {r : Nat} (hb : Blk W r T_int [.int .i64 1]) : IntsR W (some ⟨r, 0, none⟩) 1 1 (digs 1) := by
  rw [digs_one]
  exact ⟨rfl, Nat.le_refl _, by omega, fun _ => ⟨_, 0, rfl, hb.seg⟩⟩
theorem val_add' (m k : Nat) : (val (digs m) + val (digs k)).toNat = m + k := by rw [val_digs, val_digs, <- Int.natCast_add, Int.toNat_natCast]
theorem odd_even (q : Nat) : (!(decide (q % 2 = 0))) = decide (q % 2 = 1) := by
  rcases Nat.mod_two_eq_zero_or_one q with h | h <;> simp [h]
theorem impl_NatEven_n {w : World} {p : Option Addr} {n c q : Nat} (h : IntsR w p n c (digs q)) (hn : n <= 50) :
    Ret P n_impl_NatEven [.slice p n c] w fun v w' => v = .bool (decide (q % 2 = 0)) /\ Ext w w' := by
  have hl := h.1
  refine impl_NatEven_ret ?_
  unfold impl_NatEven
  refine Ret.at (impl_NatOk_c h) ?_
  rintro v w1 ⟨hv, y1⟩
  subst hv
  rw [natOk_spec.2 ⟨digs_canon q, by omega⟩]
  refine ⟨_, rfl, ifT (ifD (fun h0 => ⟨?_, y1⟩) (fun h0 => ?_))⟩
  · have : q % 2 = 0 := even_head.1 (.inl (by omega))
    rw [decide_eq_true this]
  · obtain ⟨ad, hp', hld⟩ := (h.ext y1).at (P := P) (t := T_int) (by kernel_rfl) (k := 0) (by omega)
    subst hp'
    have hx := digs_limbs q _ (List.getElem_mem (show 0 < (digs q).length by omega))
    refine ⟨⟨by omega, by omega⟩, _, by simpa using hld, by decide, _, rfl, ?_, y1⟩
    rw [Int.tmod_eq_emod_of_nonneg hx.1]
    have e : (digs q)[0]'(by omega) = (digs q).getD 0 0 := by rw [List.getD_eq_getElem?_getD, List.getElem?_eq_getElem (by omega)]; rfl
    rw [e]
    exact congrArg Value.bool (decide_eq_decide.2 ⟨fun hh => even_head.1 (.inr hh), fun hh => (even_head.2 hh).resolve_left (by omega)⟩)
theorem impl_roundModes_1_n (neg : Bool) (half : Int) (odd : Bool) (w : World) : Ret P n_impl_roundModes_1 [.bool neg, .int .i64 half, .bool odd] w fun v w' => v = .bool (modeAway 0 neg half odd) /\ w' = w := by
  refine impl_roundModes_1_ret ?_
  unfold impl_roundModes_1
  exact ⟨rfl, rfl⟩
theorem impl_roundModes_2_n (neg : Bool) (half : Int) (odd : Bool) (w : World) : Ret P n_impl_roundModes_2 [.bool neg, .int .i64 half, .bool odd] w fun v w' => v = .bool (modeAway 1 neg half odd) /\ w' = w := by
  refine impl_roundModes_2_ret ?_
  unfold impl_roundModes_2
  exact ⟨rfl, rfl⟩
theorem impl_roundModes_3_n (neg : Bool) (half : Int) (odd : Bool) (w : World) : Ret P n_impl_roundModes_3 [.bool neg, .int .i64 half, .bool odd] w fun v w' => v = .bool (modeAway 2 neg half odd) /\ w' = w := by
  refine impl_roundModes_3_ret ?_
  unfold impl_roundModes_3
  exact ⟨rfl, rfl⟩
theorem impl_roundModes_4_n (neg : Bool) (half : Int) (odd : Bool) (w : World) : Ret P n_impl_roundModes_4 [.bool neg, .int .i64 half, .bool odd] w fun v w' => v = .bool (modeAway 3 neg half odd) /\ w' = w := by
  refine impl_roundModes_4_ret ?_
  unfold impl_roundModes_4
  exact ⟨rfl, rfl⟩
theorem impl_roundModes_5_n (neg : Bool) (half : Int) (odd : Bool) (w : World) : Ret P n_impl_roundModes_5 [.bool neg, .int .i64 half, .bool odd] w fun v w' => v = .bool (modeAway 4 neg half odd) /\ w' = w := by
  refine impl_roundModes_5_ret ?_
  unfold impl_roundModes_5
  exact ⟨rfl, rfl⟩
theorem impl_roundModes_6_n (neg : Bool) (half : Int) (odd : Bool) (w : World) : Ret P n_impl_roundModes_6 [.bool neg, .int .i64 half, .bool odd] w fun v w' => v = .bool (modeAway 5 neg half odd) /\ w' = w := by
  refine impl_roundModes_6_ret ?_
  unfold impl_roundModes_6
  exact ⟨rfl, rfl⟩
theorem impl_roundModes_7_n (neg : Bool) (half : Int) (odd : Bool) (w : World) : Ret P n_impl_roundModes_7 [.bool neg, .int .i64 half, .bool odd] w fun v w' => v = .bool (modeAway 6 neg half odd) /\ w' = w := by
  refine impl_roundModes_7_ret ?_
  unfold impl_roundModes_7
  refine ifD (fun h => ⟨?_, rfl⟩) (fun h => ifD (fun h0 => ⟨?_, rfl⟩) (fun h0 => ⟨?_, rfl⟩))
  · simp [modeAway, h]
  · simp [modeAway, h0]
  · simp [modeAway, h, h0]
def modeCells : List Value := [.string (S [100, 111, 119, 110]), .func (.func n_impl_roundModes_1) #[] #[], .string (S [117, 112]), .func (.func n_impl_roundModes_2) #[] #[], .string (S [102, 108, 111, 111, 114]), .func (.func n_impl_roundModes_3) #[] #[], .string (S [99, 101, 105, 108]), .func (.func n_impl_roundModes_4) #[] #[], .string (S [104, 97, 108, 102, 100, 111, 119, 110]), .func (.func n_impl_roundModes_5) #[] #[], .string (S [104, 97, 108, 102, 117, 112]), .func (.func n_impl_roundModes_6) #[] #[], .string (S [104, 97, 108, 102, 101, 118, 101, 110]), .func (.func n_impl_roundModes_7) #[] #[]]
theorem impl_roundModes_n (w : World) : Ret P n_impl_roundModes [] w fun v w' => v = .agg ⟨modeCells⟩ /\ Ext w w' := by
  refine impl_roundModes_ret ?_
  unfold impl_roundModes
  intro r w1 hn1
  obtain ⟨w2, st, hb2, y2⟩ := hn1.fill (P := P) (t := T_7_impl_roundMode) (xs := modeCells) (by simp [modeCells, Value.oneCell']) (by kernel_rfl) rfl
  exact ⟨w2, st, _, _, _, _, _, _, _, _, _, _, _, _, _, _, hb2.loadA0 (by kernel_rfl), rfl, y2⟩
theorem mode_call {m : Int} (h0 : 0 <= m) (h1 : m <= 6) (neg : Bool) (half : Int) (odd : Bool) : ∃ fl : Value, (∀ K : Value -> Prop, K fl -> indexS P T_7_impl_roundMode (.agg ⟨modeCells⟩) (.int .i64 m) fun el => fieldS P T_impl_roundMode el 1 fun f => K f) /\
    ∀ (w : World) (Q : Ending -> World -> Prop), Q (.returned (.bool (modeAway m neg half odd))) w -> CallW P fl [.bool neg, .int .i64 half, .bool odd] w Q := by
  have hm : m = 0 ∨ m = 1 ∨ m = 2 ∨ m = 3 ∨ m = 4 ∨ m = 5 ∨ m = 6 := by omega
  rcases hm with rfl | rfl | rfl | rfl | rfl | rfl | rfl
  · refine ⟨.func (.func n_impl_roundModes_1) #[] #[], fun K hK => ?_, fun w Q hQ => ?_⟩
    · have e : (indexS P T_7_impl_roundMode (.agg ⟨modeCells⟩) (.int .i64 0) fun el => fieldS P T_impl_roundMode el 1 fun f => K f) = (((0 : Int) <= 0 /\ (0 : Int) < (7 : Nat)) /\ ∃ v, (Value.agg #[modeCells.getD 0 .nilFunc, modeCells.getD 1 .nilFunc] = v) /\ fieldS P T_impl_roundMode v 1 fun f => K f) := by kernel_rfl
      rw [e]
      refine ⟨⟨by omega, by omega⟩, _, rfl, ?_⟩
      have e2 : (fieldS P T_impl_roundMode (Value.agg #[modeCells.getD 0 .nilFunc, modeCells.getD 1 .nilFunc]) 1 fun f => K f) = K (modeCells.getD 1 .nilFunc) := by kernel_rfl
      rw [e2]
      exact hK
    · refine ⟨_, [], [], rfl, by kernel_rfl, Calls.mono (impl_roundModes_1_n neg half odd w) ?_⟩
      rintro e w' ⟨v, he, hv, hw⟩
      subst he; subst hv; subst hw
      exact hQ
  · refine ⟨.func (.func n_impl_roundModes_2) #[] #[], fun K hK => ?_, fun w Q hQ => ?_⟩
    · have e : (indexS P T_7_impl_roundMode (.agg ⟨modeCells⟩) (.int .i64 1) fun el => fieldS P T_impl_roundMode el 1 fun f => K f) = (((0 : Int) <= 1 /\ (1 : Int) < (7 : Nat)) /\ ∃ v, (Value.agg #[modeCells.getD 2 .nilFunc, modeCells.getD 3 .nilFunc] = v) /\ fieldS P T_impl_roundMode v 1 fun f => K f) := by kernel_rfl
      rw [e]
      refine ⟨⟨by omega, by omega⟩, _, rfl, ?_⟩
      have e2 : (fieldS P T_impl_roundMode (Value.agg #[modeCells.getD 2 .nilFunc, modeCells.getD 3 .nilFunc]) 1 fun f => K f) = K (modeCells.getD 3 .nilFunc) := by kernel_rfl
      rw [e2]
      exact hK
    · refine ⟨_, [], [], rfl, by kernel_rfl, Calls.mono (impl_roundModes_2_n neg half odd w) ?_⟩
      rintro e w' ⟨v, he, hv, hw⟩
      subst he; subst hv; subst hw
      exact hQ
  · refine ⟨.func (.func n_impl_roundModes_3) #[] #[], fun K hK => ?_, fun w Q hQ => ?_⟩
    · have e : (indexS P T_7_impl_roundMode (.agg ⟨modeCells⟩) (.int .i64 2) fun el => fieldS P T_impl_roundMode el 1 fun f => K f) = (((0 : Int) <= 2 /\ (2 : Int) < (7 : Nat)) /\ ∃ v, (Value.agg #[modeCells.getD 4 .nilFunc, modeCells.getD 5 .nilFunc] = v) /\ fieldS P T_impl_roundMode v 1 fun f => K f) := by kernel_rfl
      rw [e]
      refine ⟨⟨by omega, by omega⟩, _, rfl, ?_⟩
      have e2 : (fieldS P T_impl_roundMode (Value.agg #[modeCells.getD 4 .nilFunc, modeCells.getD 5 .nilFunc]) 1 fun f => K f) = K (modeCells.getD 5 .nilFunc) := by kernel_rfl
      rw [e2]
      exact hK
    · refine ⟨_, [], [], rfl, by kernel_rfl, Calls.mono (impl_roundModes_3_n neg half odd w) ?_⟩
      rintro e w' ⟨v, he, hv, hw⟩
      subst he; subst hv; subst hw
      exact hQ
  · refine ⟨.func (.func n_impl_roundModes_4) #[] #[], fun K hK => ?_, fun w Q hQ => ?_⟩
    · have e : (indexS P T_7_impl_roundMode (.agg ⟨modeCells⟩) (.int .i64 3) fun el => fieldS P T_impl_roundMode el 1 fun f => K f) = (((0 : Int) <= 3 /\ (3 : Int) < (7 : Nat)) /\ ∃ v, (Value.agg #[modeCells.getD 6 .nilFunc, modeCells.getD 7 .nilFunc] = v) /\ fieldS P T_impl_roundMode v 1 fun f => K f) := by kernel_rfl
      rw [e]
      refine ⟨⟨by omega, by omega⟩, _, rfl, ?_⟩
      have e2 : (fieldS P T_impl_roundMode (Value.agg #[modeCells.getD 6 .nilFunc, modeCells.getD 7 .nilFunc]) 1 fun f => K f) = K (modeCells.getD 7 .nilFunc) := by kernel_rfl
      rw [e2]
      exact hK
    · refine ⟨_, [], [], rfl, by kernel_rfl, Calls.mono (impl_roundModes_4_n neg half odd w) ?_⟩
      rintro e w' ⟨v, he, hv, hw⟩
      subst he; subst hv; subst hw
      exact hQ
  · refine ⟨.func (.func n_impl_roundModes_5) #[] #[], fun K hK => ?_, fun w Q hQ => ?_⟩
    · have e : (indexS P T_7_impl_roundMode (.agg ⟨modeCells⟩) (.int .i64 4) fun el => fieldS P T_impl_roundMode el 1 fun f => K f) = (((0 : Int) <= 4 /\ (4 : Int) < (7 : Nat)) /\ ∃ v, (Value.agg #[modeCells.getD 8 .nilFunc, modeCells.getD 9 .nilFunc] = v) /\ fieldS P T_impl_roundMode v 1 fun f => K f) := by kernel_rfl
      rw [e]
      refine ⟨⟨by omega, by omega⟩, _, rfl, ?_⟩
      have e2 : (fieldS P T_impl_roundMode (Value.agg #[modeCells.getD 8 .nilFunc, modeCells.getD 9 .nilFunc]) 1 fun f => K f) = K (modeCells.getD 9 .nilFunc) := by kernel_rfl
      rw [e2]
      exact hK
    · refine ⟨_, [], [], rfl, by kernel_rfl, Calls.mono (impl_roundModes_5_n neg half odd w) ?_⟩
      rintro e w' ⟨v, he, hv, hw⟩
      subst he; subst hv; subst hw
      exact hQ
  · refine ⟨.func (.func n_impl_roundModes_6) #[] #[], fun K hK => ?_, fun w Q hQ => ?_⟩
    · have e : (indexS P T_7_impl_roundMode (.agg ⟨modeCells⟩) (.int .i64 5) fun el => fieldS P T_impl_roundMode el 1 fun f => K f) = (((0 : Int) <= 5 /\ (5 : Int) < (7 : Nat)) /\ ∃ v, (Value.agg #[modeCells.getD 10 .nilFunc, modeCells.getD 11 .nilFunc] = v) /\ fieldS P T_impl_roundMode v 1 fun f => K f) := by kernel_rfl
      rw [e]
      refine ⟨⟨by omega, by omega⟩, _, rfl, ?_⟩
      have e2 : (fieldS P T_impl_roundMode (Value.agg #[modeCells.getD 10 .nilFunc, modeCells.getD 11 .nilFunc]) 1 fun f => K f) = K (modeCells.getD 11 .nilFunc) := by kernel_rfl
      rw [e2]
      exact hK
    · refine ⟨_, [], [], rfl, by kernel_rfl, Calls.mono (impl_roundModes_6_n neg half odd w) ?_⟩
      rintro e w' ⟨v, he, hv, hw⟩
      subst he; subst hv; subst hw
      exact hQ
  · refine ⟨.func (.func n_impl_roundModes_7) #[] #[], fun K hK => ?_, fun w Q hQ => ?_⟩
    · have e : (indexS P T_7_impl_roundMode (.agg ⟨modeCells⟩) (.int .i64 6) fun el => fieldS P T_impl_roundMode el 1 fun f => K f) = (((0 : Int) <= 6 /\ (6 : Int) < (7 : Nat)) /\ ∃ v, (Value.agg #[modeCells.getD 12 .nilFunc, modeCells.getD 13 .nilFunc] = v) /\ fieldS P T_impl_roundMode v 1 fun f => K f) := by kernel_rfl
      rw [e]
      refine ⟨⟨by omega, by omega⟩, _, rfl, ?_⟩
      have e2 : (fieldS P T_impl_roundMode (Value.agg #[modeCells.getD 12 .nilFunc, modeCells.getD 13 .nilFunc]) 1 fun f => K f) = K (modeCells.getD 13 .nilFunc) := by kernel_rfl
      rw [e2]
      exact hK
    · refine ⟨_, [], [], rfl, by kernel_rfl, Calls.mono (impl_roundModes_7_n neg half odd w) ?_⟩
      rintro e w' ⟨v, he, hv, hw⟩
      subst he; subst hv; subst hw
      exact hQ
end Go.Proofs.YtgbknjdjbahdkaaGreatDoor
namespace Go.Proofs.YtgbknjdjbahdkaaGreatDoor
open Go Go.Proofs.YtgbknjdjbahdkaaGreatDoor.Sx
def modeOk (m : Int) : Bool := decide (0 <= m /\ m <= 6)
theorem rround_sign {n : Int} {d : Nat} {m : Int} (h : rround n d m ≠ 0) : decide (n < 0) = decide (rround n d m < 0) := by
  have e : rround n d m = if n < 0 then -((roundM n d m : Nat) : Int) else ((roundM n d m : Nat) : Int) := rfl
  by_cases hn : n < 0
  · rw [if_pos hn] at e
    rw [decide_eq_true hn, decide_eq_true (show rround n d m < 0 by omega)]
  · rw [if_neg hn] at e
    rw [decide_eq_false hn, decide_eq_false (show ¬ rround n d m < 0 by omega)]
theorem roundM_len {n : Int} {d : Nat} {m : Int} {k : Nat} (hd : 0 < d) (h : (digs n.natAbs).length <= k) : (digs (roundM n d m)).length <= k + 1 := by
  apply digs_len
  have h1 := lt_of_len h
  have h2 := roundM_le n d m
  have h3 := Nat.div_le_self n.natAbs d
  have h4 : 0 < 1000000000 ^ k := Nat.pow_pos (by decide)
  rw [Nat.pow_succ]
  omega
theorem impl_isMode_c (m : Int) (w : World) : Ret P n_impl_isMode [.int .i64 m] w fun v w' => v = .bool (modeOk m) /\ w' = w := by
  refine impl_isMode_ret ?_
  unfold impl_isMode
  refine ifD (fun h => ⟨?_, rfl⟩) (fun h => ⟨?_, rfl⟩)
  · exact congrArg Value.bool (decide_eq_decide.2 (by omega))
  · rw [modeOk, decide_eq_false (by omega)]
set_option maxRecDepth 100000 in
theorem impl_roundQuotient_n {w : World} {xs : List Value} {x : Int} {d : Nat} {p : Option Addr} {n c : Nat} {m : Int} (h : Reps w xs (enc x)) (k : IntsR w p n c (digs d)) (hd : 0 < d) (hx : (digs x.natAbs).length <= 40) (hn : n <= 40) (hm : modeOk m = true) :
    Ret P n_impl_roundQuotient [.agg ⟨xs⟩, .slice p n c, .int .i64 m] w fun v w' => ∃ vs f, v = .agg ⟨vs⟩ /\ Owns w' w.heap.size vs (enc (rround x d m)) f /\ f.Nodup /\ Ext w w' := by
  have hm' := of_decide_eq_true hm
  obtain ⟨a0, ap, an, ac, az, rfl, hda, ha⟩ := open_Signed h (enc_code _)
  simp only [enc, List.cons.injEq, D0.bool.injEq, D0.ints.injEq, and_true] at hda
  obtain ⟨rfl, rfl⟩ := hda
  have hla := ha.1; have hlk := k.1
  have hd0 := digs_pos_len.2 (show d ≠ 0 by omega)
  refine impl_roundQuotient_ret ?_
  unfold impl_roundQuotient
  intro r w1 hn1 r1 w2 hn2
  have e1 := hn1.r_eq; have e2 := hn2.r_eq; have z1 := hn1.size; have z2 := hn2.size
  have X := hn1.ext.trans hn2.ext
  have b0 := hn1.blk.ext hn2.ext; have b1 := hn2.blk
  have fin : ∀ W p' n' c' M, Ext w2 W -> Own W w2.heap.size T_int 1 p' n' c' ((digs M).map (Value.int .i64)) -> M = roundM x d m -> impl_roundQuotient_j0 r r1 p' n' c' W fun v w' => ∃ vs f, v = .agg ⟨vs⟩ /\ Owns w' w.heap.size vs (enc (rround x d m)) f /\ f.Nodup /\ Ext w w' := by
    intro W p' n' c' M hW hO hM
    unfold impl_roundQuotient_j0
    refine ⟨_, (b0.ext hW).loadAt 0 rfl (by kernel_rfl) rfl, ?_⟩
    refine Ret.at (impl_signed_c (neg := decide (x < 0)) hO.ints.1) ?_
    rintro v w5 ⟨hv, y5⟩
    subst hv
    obtain ⟨W', st, ld, ow, xx, _, _⟩ := agg_end (t := T_impl_Signed) (b1.ext (hW.trans y5)) (X.trans (hW.trans y5)) (by omega) (own_int (hO.ext y5) (z := rround x d m) (by rw [rround_abs]; exact hM) rround_sign) (by kernel_rfl) rfl (by omega) (by omega)
    exact ⟨_, _, _, _, rfl, W', st, _, _, _, _, ld, _, _, rfl, ow, nodup_opt p', xx⟩
  refine ⟨_, _, _, b0.loadAt 1 rfl (by kernel_rfl) rfl, ?_⟩
  refine Ret.at (impl_natDiv_c (ha.ext X) (k.ext X) (digs_canon _) (digs_canon _) (by omega) (by omega) (by omega)) ?_
  rintro v w3 ⟨p3, n3, c3, p4, n4, c4, hv, oq, or', _, y3⟩
  subst hv
  rw [val_div] at oq
  rw [val_mod] at or'
  have lq := oq.ints.1; have lr := or'.ints.1
  have D := Ext.drew w3
  have Y := y3.trans D
  have q50 : n3 <= 40 := by have := digs_mono_len (Nat.div_le_self x.natAbs d); omega
  have r50 : n4 <= 40 := by have := digs_mono_len (Nat.le_of_lt (Nat.mod_lt x.natAbs hd)); omega
  refine ⟨_, _, _, _, _, _, rfl, ifD (fun hrem => ?_) (fun hno => ifF (fin _ _ _ _ _ Y (oq.ext D) ?_))⟩
  · have hne : x.natAbs % d ≠ 0 := digs_pos_len.1 (by omega)
    obtain ⟨fl, hix, hcall⟩ := mode_call hm'.1 hm'.2 (decide (x < 0)) (cmpL (digs (x.natAbs % d + x.natAbs % d)) (digs d)) (decide (x.natAbs / d % 2 = 1))
    refine Ret.at (impl_roundModes_n _) ?_
    rintro v w4 ⟨hv, y4⟩
    subst hv
    refine ⟨_, _, _, _, _, _, _, _, _, _, _, _, _, _, rfl, y4, hix _ ⟨_, fun W hW => ((b0.ext Y).ext hW).loadAt 0 rfl (by kernel_rfl) rfl, ?_⟩⟩
    refine Ret.at (impl_natAdd_c ((or'.ext D).ext y4).ints ((or'.ext D).ext y4).ints (digs_limbs _) (digs_limbs _) (by omega) (by omega)) ?_
    rintro v w5 ⟨p5, n5, c5, hv, o5, y5⟩
    subst hv
    rw [val_add'] at o5
    refine ⟨_, _, _, rfl, y5, ?_⟩
    refine Ret.at (impl_natCmp_c o5.ints (k.ext ((X.trans Y).trans (y4.trans y5)))) ?_
    rintro v w6 ⟨hv, y6⟩
    subst hv
    refine ⟨_, rfl, y6, ?_⟩
    have Y6 := (D.trans (y4.trans y5)).trans y6
    refine Ret.at (impl_NatEven_n (oq.ext Y6).ints (by omega)) ?_
    rintro v w7 ⟨hv, y7⟩
    subst hv
    refine ⟨_, rfl, y7, ?_⟩
    rw [odd_even]
    have Y7 := Y6.trans y7
    refine hcall _ _ ⟨_, rfl, fun hyes => ?_, fun hno => fin _ _ _ _ _ (y3.trans Y7) (oq.ext Y7) ?_⟩
    · intro r8 w8 hn8
      refine Ret.at (impl_natAdd_c ((oq.ext Y7).ext hn8.ext).ints (digs_one_r hn8.blk) (digs_limbs _) (digs_limbs _) (by omega) (by omega)) ?_
      rintro v w9 ⟨p9, n9, c9, hv, o9, y9⟩
      subst hv
      rw [val_add'] at o9
      have l8 := ((y3.trans Y7).trans hn8.ext).le
      refine ⟨_, _, _, rfl, fin _ _ _ _ _ (((y3.trans Y7).trans hn8.ext).trans y9) (o9.mono l8) ?_⟩
      rw [roundM, if_pos ⟨hne, hyes⟩]
    · rw [roundM, if_neg (fun hh => by rw [hh.2] at hno; cases hno)]
  · have heq : x.natAbs % d = 0 := Decidable.byContradiction fun hh => by
      have := digs_pos_len.2 hh
      omega
    rw [roundM, if_neg (fun hh => hh.1 heq)]
theorem impl_RatRound_n {w : World} {xs : List Value} {N : Int} {D : Nat} {m : Int} (h : Reps w xs (rmk N D)) (hok : ratOk (rmk N D) = true) :
    Ret P n_impl_RatRound [.agg ⟨xs⟩, .int .i64 m] w fun v w' => ∃ vs f, v = .tuple #[.agg ⟨vs⟩, .bool (modeOk m)] /\ Owns w' w.heap.size vs (enc (if modeOk m then rround N D m else 0)) f /\ f.Nodup /\ Ext w w' := by
  have hr := h
  obtain ⟨p1, n1, c1, p2, n2, c2, rfl, i1, i2, li1, li2, he, hd⟩ := rmk_open h hok
  have ei1 := i1.1; have ei2 := i2.1
  refine impl_RatRound_ret ?_
  unfold impl_RatRound
  intro r w1 hn1 r1 w2 hn2
  have e1 := hn1.r_eq; have e2 := hn2.r_eq; have z1 := hn1.size; have z2 := hn2.size
  have X := hn1.ext.trans hn2.ext
  have b0 := hn1.blk.ext hn2.ext; have b1 := hn2.blk
  refine ⟨_, _, _, _, _, _, _, b0.loadA0 (by kernel_rfl), ?_⟩
  refine Ret.at (impl_RatOk_c (hr.ext X) (rmk_code _ _)) ?_
  rintro v w3 ⟨hv, y3⟩
  subst hv
  rw [hok]
  refine ⟨_, rfl, ifN (fun hh => absurd hh (by simp)) (fun _ => ?_)⟩
  refine Ret.at (impl_isMode_c m _) ?_
  rintro v w4 ⟨hv, hw⟩
  subst hv; subst hw
  have X3 := X.trans y3
  have l3 := y3.le
  have b0 := b0.ext y3; have b1 := b1.ext y3
  refine ⟨_, rfl, ifN (fun hno => ?_) (fun hyes => ?_)⟩
  · obtain ⟨W', st, ld, ow, xx, _, _⟩ := agg_end (t := T_impl_Signed) b1 X3 (by omega) (own_sgn0 w4 (r1 + 1)) (by kernel_rfl) rfl (by omega) (by omega)
    exact ⟨W', st, _, _, _, _, ld, _, [], by rw [hno], by rw [hno]; exact ow, List.nodup_nil, xx⟩
  · refine ⟨_, _, _, _, b0.loadAAt 0 [.bool (decide (N < 0)), .slice p1 n1 c1] rfl (by kernel_rfl) rfl, _, _, _, b0.loadAt 2 rfl (by kernel_rfl) rfl, ?_⟩
    refine Ret.at (impl_roundQuotient_n (he.ext X3) (i2.ext X3) hd (by omega) (by omega) hyes) ?_
    rintro v w5 ⟨vs5, f5, hv, ho5, nd5, y5⟩
    subst hv
    have hr5 := ho5.reps
    obtain ⟨s0, sp, sn, sc, sz, rfl, _, _⟩ := open_Signed hr5 (enc_code _)
    obtain ⟨W', st, ld, ow, xx, _, _⟩ := agg_end (t := T_impl_Signed) (b1.ext y5) (X3.trans y5) (by omega) ho5 (by kernel_rfl) rfl (by omega) (by omega)
    exact ⟨_, _, _, _, rfl, W', st, _, _, _, _, ld, _, f5, by rw [hyes], by rw [hyes]; exact ow, nd5, xx⟩
end Go.Proofs.YtgbknjdjbahdkaaGreatDoor
namespace Go.Proofs.YtgbknjdjbahdkaaGreatDoor
open Go Go.Proofs.YtgbknjdjbahdkaaGreatDoor.Sx
theorem impl_moneyOf_c {w : World} (ht : Tab w) {B : Nat} {xs : List Value} {z : Int} {f : List Nat} (cur : ByteArray) (h : Owns w B xs (enc z) f) (hnd : f.Nodup) (hB : B <= w.heap.size) :
    Ret P n_impl_moneyOf [.string cur, .agg ⟨xs⟩] w fun v w' => ∃ vs f', v = .tuple #[.agg ⟨vs⟩, .bool (moneyOk (.str cur :: enc z))] /\ Owns w' B vs (moneyMk cur z) f' /\ f'.Nodup /\ Ext w w' := by
  have ho := h
  obtain ⟨a0, a1p, a1n, a1c, a1z, rfl, hd, ha⟩ := open_Signed h.reps (enc_code _)
  refine impl_moneyOf_ret ?_
  unfold impl_moneyOf
  intro r w1 hn1 r1 w2 hn2
  refine ⟨_, _, _, _, (hn1.blk.ext hn2.ext).loadA0 (by kernel_rfl), ?_⟩
  intro r2 w3 hn3
  have e1 := hn1.r_eq; have e2 := hn2.r_eq; have e3 := hn3.r_eq; have s1 := hn1.size; have s2 := hn2.size; have s3 := hn3.size
  obtain ⟨w4, st4, hb4, y4⟩ := hn3.fill (P := P) (t := T_impl_Money) (xs := [.string cur, .bool a0, .slice a1p a1n a1c]) (by simp [Value.oneCell']) (by kernel_rfl) rfl
  have X := (hn1.ext.trans hn2.ext).trans y4
  have k1 := hn2.blk.ext y4
  refine ⟨w4, st4, _, _, _, _, _, hb4.loadA0 (by kernel_rfl), ?_⟩
  have hm : Reps w4 [.string cur, .bool a0, .slice a1p a1n a1c] (.str cur :: enc z) := ⟨rfl, h.reps.ext X⟩
  refine Ret.at (impl_MoneyOk_c (ht.ext X) hm rfl) ?_
  rintro v w5 ⟨hv, y5⟩
  subst hv
  have X5 := X.trans y5
  refine ⟨_, rfl, fun hyes => ?_, fun hno => ?_⟩
  · obtain ⟨w6, st6, hb6, ch, sz⟩ := (k1.ext y5).storeA0 (P := P) (t := T_impl_Money) (xs := [.string cur, .bool a0, .slice a1p a1n a1c]) (by kernel_rfl) rfl (by simp [Value.oneCell'])
    refine ⟨_, _, _, _, _, (hb4.ext y5).loadA0 (by kernel_rfl), w6, st6, _, _, _, _, _, hb6.loadA0 (by kernel_rfl), [.string cur, .bool a0, .slice a1p a1n a1c], f, by rw [hyes], ?_, hnd, X5.chg ch (by simp; omega)⟩
    unfold moneyMk
    rw [hyes]
    have h5 := ((ho.ext X5).chg ch fun k hk hm => by
      have := (ho.lt k hk).2
      simp at hm; omega)
    exact Owns.append (Owns.str _ _ cur) h5
  · obtain ⟨w6, st6, hb6, ch, sz⟩ := (k1.ext y5).storeA0 (P := P) (t := T_impl_Money) (xs := [.string ByteArray.empty, .bool false, .slice none 0 0]) (by kernel_rfl) rfl (by simp [Value.oneCell'])
    refine ⟨w6, st6, _, _, _, _, _, hb6.loadA0 (by kernel_rfl), [.string ByteArray.empty, .bool false, .slice none 0 0], [], by rw [hno], ?_, List.nodup_nil, X5.chg ch (by simp; omega)⟩
    unfold moneyMk
    rw [hno]
    exact Owns.append (Owns.str _ _ _) (Owns.append (Owns.bool _ _ false) (Owns.ints (zs := []) (Own.nil w6 B T_int 1)))
end Go.Proofs.YtgbknjdjbahdkaaGreatDoor
namespace Go.Proofs.YtgbknjdjbahdkaaGreatDoor
open Go Go.Proofs.YtgbknjdjbahdkaaGreatDoor.Sx
theorem own_money0 (W : World) (B : Nat) : Owns W B [.string ByteArray.empty, .bool false, .slice none 0 0] zeroMoney [] :=
  Owns.append (Owns.str _ _ _) (Owns.append (Owns.bool _ _ false) (Owns.ints (zs := []) (Own.nil W B T_int 1)))
end Go.Proofs.YtgbknjdjbahdkaaGreatDoor
namespace Go.Proofs.YtgbknjdjbahdkaaGreatDoor
open Go Go.Proofs.YtgbknjdjbahdkaaGreatDoor.Sx
theorem two_end {t1 t2 : TypeId} {w W : World} {r1 r2 : Nat} {e1 e2 : TypeId} {o1 o2 xs1 xs2 : List Value} {d1 d2 : List D0} {f1 f2 : List Nat} {B : Nat} (hb1 : Blk W r1 e1 o1) (hb2 : Blk W r2 e2 o2) (X : Ext w W)
    (ho1 : Owns W B xs1 d1 f1) (ho2 : Owns W B xs2 d2 f2) (ht1 : aggT P t1 xs1.length = true) (hl1 : xs1.length = o1.length) (ht2 : aggT P t2 xs2.length = true) (hl2 : xs2.length = o2.length) (hne : r1 ≠ r2) (hr1 : w.heap.size <= r1) (hr2 : w.heap.size <= r2) (hB1 : r1 < B) (hB2 : r2 < B) (hwB : w.heap.size <= B) :
    ∃ W1 W2, Stores P t1 ⟨r1, 0, none⟩ (.agg ⟨xs1⟩) W W1 /\ Chg [r1] W W1 /\ Stores P t2 ⟨r2, 0, none⟩ (.agg ⟨xs2⟩) W1 W2 /\ Loads P t1 ⟨r1, 0, none⟩ (.agg ⟨xs1⟩) W2 /\ Loads P t2 ⟨r2, 0, none⟩ (.agg ⟨xs2⟩) W2 /\ Owns W2 w.heap.size xs1 d1 f1 /\ Owns W2 w.heap.size xs2 d2 f2 /\ Ext w W2 := by
  obtain ⟨W1, st1, hb1', ch1, _⟩ := hb1.storeA0 (P := P) (t := t1) (xs := xs1) ht1 hl1 ho1.reps.cells1
  obtain ⟨W2, st2, hb2', ch2, _⟩ := (hb2.chg ch1 (by simp; omega)).storeA0 (P := P) (t := t2) (xs := xs2) ht2 hl2 ho2.reps.cells1
  exact ⟨W1, W2, st1, ch1, st2, (hb1'.chg ch2 (by simp; omega)).loadA0 ht1, hb2'.loadA0 ht2, ((ho1.chg1 ch1 hB1).chg1 ch2 hB2).mono hwB, ((ho2.chg1 ch1 hB1).chg1 ch2 hB2).mono hwB, (X.chg ch1 (by simp; exact hr1)).chg ch2 (by simp; exact hr2)⟩
theorem Owns.notin {w : World} {B : Nat} {r : Nat} {e : TypeId} {cs : List Value} (hb : Blk w r e cs) (he : e ≠ T_int) : ∀ {vs : List Value} {ds : List D0} {f : List Nat}, Owns w B vs ds f -> r ∉ f
  | [], [], f, h => by rw [show f = [] from h]; simp
  | [], _ :: _, _, h => h.elim
  | _ :: _, [], _, h => h.elim
  | v :: vs, d :: ds, _, h => by
    obtain ⟨f1, f2, rfl, h1, h2⟩ := h
    have ih := Owns.notin hb he h2
    intro hm
    rcases List.mem_append.1 hm with hm | hm
    · cases d <;> simp only [Own0] at h1
      case ints zs =>
        obtain ⟨p, n, c, _, ho, hf⟩ := h1
        rw [hf] at hm
        have hm := opt_mem hm
        rcases ho.2 with k1 | ⟨g, cap, cur, k1, k2, k3, k4⟩
        · simp only [Value.slice.injEq] at k1
          rw [k1.1.1] at hm
          simp at hm
        · simp only [Value.slice.injEq] at k1
          rw [k1.1] at hm
          simp at hm
          subst hm
          rw [show w.heap[g]? = _ from hb] at k3
          simp only [Option.some.injEq, Obj.cells.injEq] at k3
          exact he k3.2.1
      all_goals (rw [h1.2] at hm; simp at hm)
    · exact ih hm
def rr (N : Int) (D : Nat) (m : Int) : Int := if modeOk m then rround N D m else 0
def restR (N : Int) (D : Nat) (m : Int) : List D0 := redR (N * ((1 : Nat) : Int) + -(rround N D m) * (D : Int)) (D * 1)
def rs (N : Int) (D : Nat) (m : Int) : List D0 := if modeOk m then restR N D m else rat0
def rmOk (cur : ByteArray) (N : Int) (D : Nat) (m : Int) : Bool := modeOk m && moneyOk (.str cur :: enc (rround N D m))
def rmMoney (cur : ByteArray) (N : Int) (D : Nat) (m : Int) : List D0 := if rmOk cur N D m then .str cur :: enc (rround N D m) else zeroMoney
def rmRest (cur : ByteArray) (N : Int) (D : Nat) (m : Int) : List D0 := if rmOk cur N D m then restR N D m else rat0
theorem one_len1 : (digs 1).length <= 1 := by rw [digs_one]; decide
theorem redR_int {z : Int} (h : (digs z.natAbs).length <= 18) : redR z 1 = rmk z 1 := by
  have h1 : redN z 1 = z := by
    have h2 : Nat.gcd z.natAbs 1 = 1 := Nat.gcd_one_right _
    unfold redN
    rw [h2, Nat.div_one]
    split <;> omega
  have h2 : redD z 1 = 1 := by
    have h2 : Nat.gcd z.natAbs 1 = 1 := Nat.gcd_one_right _
    unfold redD
    rw [h2]
  rw [redR_small h (Nat.le_trans one_len1 (by decide)), h1, h2]
theorem rmk_int_ok {z : Int} (h : (digs z.natAbs).length <= 18) : ratOk (rmk z 1) = true := ratOk_rmk (by decide) (Nat.gcd_one_right _) h (Nat.le_trans one_len1 (by decide))
theorem rr_len {N : Int} {D : Nat} {m : Int} (hd : 0 < D) (h : (digs N.natAbs).length <= 10) : (digs (rr N D m).natAbs).length <= 11 := by
  unfold rr
  split
  · rw [rround_abs]; exact roundM_len hd h
  · rw [Int.natAbs_zero, digs_zero]; simp
theorem rest_len {N z : Int} {D : Nat} (hN : (digs N.natAbs).length <= 10) (hD : (digs D).length <= 6) (hz : (digs z.natAbs).length <= 11) : redOk (N * ((1 : Nat) : Int) + -z * (D : Int)) (D * 1) = true := by
  have h1 : (digs (-z * (D : Int)).natAbs).length <= 17 := by
    rw [Int.natAbs_mul, Int.natAbs_natCast, Int.natAbs_neg]
    exact prod_len hz hD
  have h2 : (digs (N * ((1 : Nat) : Int)).natAbs).length <= 17 := by
    rw [Int.natCast_one, Int.mul_one]; omega
  exact redOk_small (sum_len h2 h1) (by rw [Nat.mul_one]; omega)
theorem impl_moneyOf_s {w : World} (ht : Tab w) {B : Nat} {xs : List Value} {z : Int} {f : List Nat} (cur : ByteArray) (h : Owns w B xs (enc z) f) (hnd : f.Nodup) (hB : B <= w.heap.size) :
    Ret P n_impl_moneyOf [.string cur, .agg ⟨xs⟩] w fun v w' => ∃ vs f', v = .tuple #[.agg ⟨vs⟩, .bool (moneyOk (.str cur :: enc z))] /\ Owns w' B vs (moneyMk cur z) f' /\ f'.Nodup /\ (∀ k ∈ f', k ∈ f) /\ Ext w w' := by
  have ho := h
  obtain ⟨a0, a1p, a1n, a1c, a1z, rfl, hd, ha⟩ := open_Signed h.reps (enc_code _)
  refine impl_moneyOf_ret ?_
  unfold impl_moneyOf
  intro r w1 hn1 r1 w2 hn2
  refine ⟨_, _, _, _, (hn1.blk.ext hn2.ext).loadA0 (by kernel_rfl), ?_⟩
  intro r2 w3 hn3
  have e1 := hn1.r_eq; have e2 := hn2.r_eq; have e3 := hn3.r_eq; have s1 := hn1.size; have s2 := hn2.size; have s3 := hn3.size
  obtain ⟨w4, st4, hb4, y4⟩ := hn3.fill (P := P) (t := T_impl_Money) (xs := [.string cur, .bool a0, .slice a1p a1n a1c]) (by simp [Value.oneCell']) (by kernel_rfl) rfl
  have X := (hn1.ext.trans hn2.ext).trans y4
  have k1 := hn2.blk.ext y4
  refine ⟨w4, st4, _, _, _, _, _, hb4.loadA0 (by kernel_rfl), ?_⟩
  have hm : Reps w4 [.string cur, .bool a0, .slice a1p a1n a1c] (.str cur :: enc z) := ⟨rfl, h.reps.ext X⟩
  refine Ret.at (impl_MoneyOk_c (ht.ext X) hm rfl) ?_
  rintro v w5 ⟨hv, y5⟩
  subst hv
  have X5 := X.trans y5
  refine ⟨_, rfl, fun hyes => ?_, fun hno => ?_⟩
  · obtain ⟨w6, st6, hb6, ch, sz⟩ := (k1.ext y5).storeA0 (P := P) (t := T_impl_Money) (xs := [.string cur, .bool a0, .slice a1p a1n a1c]) (by kernel_rfl) rfl (by simp [Value.oneCell'])
    refine ⟨_, _, _, _, _, (hb4.ext y5).loadA0 (by kernel_rfl), w6, st6, _, _, _, _, _, hb6.loadA0 (by kernel_rfl), [.string cur, .bool a0, .slice a1p a1n a1c], f, by rw [hyes], ?_, hnd, fun _ hh => hh, X5.chg ch (by simp; omega)⟩
    unfold moneyMk
    rw [hyes]
    have h5 := ((ho.ext X5).chg ch fun k hk hm => by
      have := (ho.lt k hk).2
      simp at hm; omega)
    exact Owns.append (Owns.str _ _ cur) h5
  · obtain ⟨w6, st6, hb6, ch, sz⟩ := (k1.ext y5).storeA0 (P := P) (t := T_impl_Money) (xs := [.string ByteArray.empty, .bool false, .slice none 0 0]) (by kernel_rfl) rfl (by simp [Value.oneCell'])
    refine ⟨w6, st6, _, _, _, _, _, hb6.loadA0 (by kernel_rfl), [.string ByteArray.empty, .bool false, .slice none 0 0], [], by rw [hno], ?_, List.nodup_nil, fun _ hh => by simp at hh, X5.chg ch (by simp; omega)⟩
    unfold moneyMk
    rw [hno]
    exact Owns.append (Owns.str _ _ _) (Owns.append (Owns.bool _ _ false) (Owns.ints (zs := []) (Own.nil w6 B T_int 1)))
theorem impl_RatRest_n {w : World} {xs : List Value} {N : Int} {D : Nat} {m : Int} (h : Reps w xs (rmk N D)) (hok : ratOk (rmk N D) = true) (hN : (digs N.natAbs).length <= 10) (hD : (digs D).length <= 6) :
    Ret P n_impl_RatRest [.agg ⟨xs⟩, .int .i64 m] w fun v w' => ∃ vs1 f1 vs2 f2, v = .tuple #[.agg ⟨vs1⟩, .agg ⟨vs2⟩, .bool (modeOk m)] /\ Owns w' w.heap.size vs1 (enc (rr N D m)) f1 /\ f1.Nodup /\ Owns w' w.heap.size vs2 (rs N D m) f2 /\ f2.Nodup /\ (∀ k ∈ f1, k ∉ f2) /\ Ext w w' := by
  have hr := h
  obtain ⟨p1, n1, c1, p2, n2, c2, rfl, i1, i2, li1, li2, he, hd⟩ := rmk_open h hok
  refine impl_RatRest_ret ?_
  unfold impl_RatRest
  intro r w1 hn1 r1 w2 hn2 r2 w3 hn3
  have e1 := hn1.r_eq; have e2 := hn2.r_eq; have e3 := hn3.r_eq; have z1 := hn1.size; have z2 := hn2.size; have z3 := hn3.size
  have X := (hn1.ext.trans hn2.ext).trans hn3.ext
  have b0 := (hn1.blk.ext hn2.ext).ext hn3.ext; have b1 := hn2.blk.ext hn3.ext; have b2 := hn3.blk
  have zlen := rr_len (m := m) hd hN
  have zok := rmk_int_ok (show (digs (rr N D m).natAbs).length <= 18 by omega)
  have zred := redR_int (show (digs (rr N D m).natAbs).length <= 18 by omega)
  have zrok := redOk_small (n := rr N D m) (d := 1) (by omega) (Nat.le_trans one_len1 (by decide))
  have dok := rest_len (z := rr N D m) hN hD zlen
  refine ⟨_, _, _, _, _, _, _, b0.loadA0 (by kernel_rfl), ?_⟩
  refine Ret.at (impl_RatRound_n (m := m) (hr.ext X) hok) ?_
  rintro v w4 ⟨vs4, f4, hv, ho4, nd4, y4⟩
  subst hv
  have ho4 : Owns w4 w3.heap.size vs4 (enc (rr N D m)) f4 := ho4
  have hr4 := ho4.reps
  obtain ⟨s0, sp, sn, sc, sz, rfl, _, _⟩ := open_Signed hr4 (enc_code _)
  refine ⟨_, _, _, _, _, rfl, ?_⟩
  intro r3 w5 hn5
  have e5 := hn5.r_eq; have z5 := hn5.size; have l4 := y4.le
  obtain ⟨w6, st6, hb6, y6⟩ := hn5.fill (P := P) (t := T_impl_Signed) (xs := [.bool s0, .slice sp sn sc]) (by simp [Value.oneCell']) (by kernel_rfl) rfl
  have Y6 := y4.trans y6
  have l6 := y6.le
  have zero : ∀ W, Ext w6 W -> modeOk m = false -> ∃ W1, Stores P T_impl_Signed ⟨r1, 0, none⟩ (.agg ⟨[.bool false, .slice none 0 0]⟩) W W1 /\ ∃ W2, Stores P T_impl_Rat ⟨r2, 0, none⟩ (.agg ⟨[.bool false, .slice none 0 0, .slice none 0 0]⟩) W1 W2 /\ Loads P T_impl_Signed ⟨r1, 0, none⟩ (.agg ⟨[.bool false, .slice none 0 0]⟩) W2 /\ Loads P T_impl_Rat ⟨r2, 0, none⟩ (.agg ⟨[.bool false, .slice none 0 0, .slice none 0 0]⟩) W2 /\ Owns W2 w.heap.size [.bool false, .slice none 0 0] (enc (rr N D m)) [] /\ Owns W2 w.heap.size [.bool false, .slice none 0 0, .slice none 0 0] (rs N D m) [] /\ Ext w W2 := by
    intro W hW hno
    have q1 := (b1.ext Y6).ext hW; have q2 := (b2.ext Y6).ext hW
    obtain ⟨W1, W2, a1, _, a2, a3, a4, a5, a6, a7⟩ := two_end (t1 := T_impl_Signed) (t2 := T_impl_Rat) q1 q2 ((X.trans Y6).trans hW) (own_sgn0 W (r2 + 1)) (own_rat0 W (r2 + 1)) (by kernel_rfl) rfl (by kernel_rfl) rfl (by omega) (by omega) (by omega) (by omega) (by omega) (by omega)
    have z1' : rr N D m = 0 := by rw [rr, hno]; rfl
    have z2' : rs N D m = rat0 := by rw [rs, hno]; rfl
    rw [z1', z2']
    exact ⟨W1, a1, W2, a2, a3, a4, a5, a6, a7⟩
  refine ⟨w6, st6, ifN (fun hno => ?_) (fun hyes => ?_)⟩
  · obtain ⟨W1, a1, W2, a2, a3, a4, a5, a6, a7⟩ := zero _ (Ext.refl _) hno
    exact ⟨W1, a1, W2, a2, _, _, _, _, a3, _, _, _, _, _, _, _, a4, _, [], _, [], by rw [hno], a5, List.nodup_nil, a6, List.nodup_nil, fun k hk => by simp at hk, a7⟩
  ·
    have hr6 : Reps w6 [.bool s0, .slice sp sn sc] (enc (rr N D m)) := hr4.ext y6
    refine ⟨_, _, _, _, hb6.loadA0 (by kernel_rfl), ?_⟩
    refine Ret.at (impl_RatInt_n hr6 (by omega)) ?_
    rintro v w7 ⟨vs7, f7, hv, ho7, _, y7⟩
    subst hv
    rw [zred] at ho7
    rw [zrok]
    have hr7 := ho7.reps
    obtain ⟨u0, up, un, uc, uz, up2, un2, uc2, uz2, rfl, _, _, _⟩ := open_Rat hr7 (rmk_code _ _)
    refine ⟨_, _, _, _, _, _, _, _, rfl, ?_⟩
    intro r4 w8 hn8
    have e8 := hn8.r_eq; have z8 := hn8.size; have l7 := y7.le
    obtain ⟨w9, st9, hb9, y9⟩ := hn8.fill (P := P) (t := T_impl_Rat) (xs := [.bool u0, .slice up un uc, .slice up2 un2 uc2]) (by simp [Value.oneCell']) (by kernel_rfl) rfl
    have l9 := y9.le
    have Y9 := (Y6.trans y7).trans y9
    refine ⟨w9, st9, _, _, _, _, _, _, _, (b0.ext Y9).loadA0 (by kernel_rfl), _, _, _, _, _, _, _, hb9.loadA0 (by kernel_rfl), ?_⟩
    refine Ret.at (impl_RatSub_n (hr.ext (X.trans Y9)) (hr7.ext y9) hok zok) ?_
    rintro v w10 ⟨vs10, f10, hv, ho10, nd10, y10⟩
    subst hv
    rw [dok]
    have hr10 := ho10.reps
    obtain ⟨g0, gp, gn, gc, gz, gp2, gn2, gc2, gz2, rfl, _, _, _⟩ := open_Rat hr10 (redR_code _ _)
    refine ⟨_, _, _, _, _, _, _, _, rfl, ?_⟩
    intro r5 w11 hn11
    have e11 := hn11.r_eq; have z11 := hn11.size; have l10 := y10.le
    obtain ⟨w12, st12, hb12, y12⟩ := hn11.fill (P := P) (t := T_impl_Rat) (xs := [.bool g0, .slice gp gn gc, .slice gp2 gn2 gc2]) (by simp [Value.oneCell']) (by kernel_rfl) rfl
    have D' := Ext.drew w12
    have Y12 := ((Y9.trans y10).trans y12).trans D'
    have T12 := (((y7.trans y9).trans y10).trans y12).trans D'
    have q1 := b1.ext Y12; have q2 := b2.ext Y12
    have k3 := hb6.ext T12; have k5 := hb12.ext D'
    have o1 := (ho4.ext y6).ext T12
    have o2 := ((ho10.ext y12).ext D').mono (show w3.heap.size <= w9.heap.size by omega)
    have dis : ∀ k ∈ f4, k ∉ f10 := fun k hk hm => by
      have a := (ho4.lt k hk).2
      have b := (ho10.lt k hm).1
      omega
    refine ⟨w12, st12, ?_⟩
    refine ifN (fun hh => absurd hh (by simp)) (fun _ => ifN (fun hh => absurd hh (by simp)) (fun _ => ?_))
    obtain ⟨W1, W2, a1, ch1, a2, a3, a4, a5, a6, a7⟩ := two_end (t1 := T_impl_Signed) (t2 := T_impl_Rat) q1 q2 (X.trans Y12) o1 o2 (by kernel_rfl) rfl (by kernel_rfl) rfl (by omega) (by omega) (by omega) (by omega) (by omega) (by omega)
    have z1' : rr N D m = rround N D m := by rw [rr, hyes]; rfl
    have z2' : rs N D m = restR N D m := by rw [rs, hyes]; rfl
    refine ⟨[r1], _, _, _, _, fun W hW => (k3.chg (show Chg [r1] w12.drew W from hW) (by simp; omega)).loadA0 (by kernel_rfl), _, _, _, _, _, _, _, fun W hW => (k5.chg (show Chg [r1] w12.drew W from hW) (by simp; omega)).loadA0 (by kernel_rfl), W1, a1, show Chg [r1] w12.drew W1 from ch1, W2, a2, _, _, _, _, a3, _, _, _, _, _, _, _, a4, _, f4, _, f10, by rw [hyes], a5, nd4, ?_, nd10, dis, a7⟩
    rw [z2', restR, <- z1']
    exact a6
end Go.Proofs.YtgbknjdjbahdkaaGreatDoor
namespace Go.Proofs.YtgbknjdjbahdkaaGreatDoor
open Go Go.Proofs.YtgbknjdjbahdkaaGreatDoor.Sx
def taxOk : List D0 -> Bool
  | [.bool b, .ints z, .int s] => decOk [.bool b, .ints z, .int s] && decide (z.length <= 1) && !b && decide (dcmp [.bool b, .ints z, .int s] (enc 1 ++ [.int 0]) <= 0)
  | _ => false
theorem impl_TaxRateOk_c {w : World} {xs : List Value} {dx : List D0} (h : Reps w xs dx) (hc : dx.map D0.code = [.bool, .ints, .int]) :
    Ret P n_impl_TaxRateOk [.agg ⟨xs⟩] w fun v w' => v = .bool (taxOk dx) /\ Ext w w' := by
  have hr := h
  obtain ⟨a0, a1p, a1n, a1c, a1z, a2, rfl, rfl, ha⟩ := open_Dec h hc
  refine impl_TaxRateOk_ret ?_
  unfold impl_TaxRateOk
  intro r w1 hn1
  have D := Ext.drew w1
  have X := hn1.ext.trans D
  have hl := ha.1
  refine ⟨_, _, _, _, _, fun W hW => (hn1.blk.ext (D.trans hW)).loadA0 (by kernel_rfl), ?_⟩
  refine Ret.at (impl_DecOk_c (hr.ext X) rfl) ?_
  rintro v w2 ⟨hv, y2⟩
  subst hv
  have X2 := X.trans y2
  have b := (hn1.blk.ext D).ext y2
  refine ⟨_, rfl, fun e1 => ⟨_, _, _, fun W hW => (b.ext hW).loadAt 1 rfl (by kernel_rfl) rfl, ifD (fun hle => ⟨_, fun W hW => (b.ext hW).loadAt 0 rfl (by kernel_rfl) rfl, fun e2 => ?_, fun e2 => ⟨?_, X2⟩⟩) (fun hgt => ifF ⟨?_, X2⟩)⟩, fun e1 => ifF (ifF ⟨?_, X2⟩)⟩
  · refine ⟨_, _, _, _, _, fun W hW => (b.ext hW).loadA0 (by kernel_rfl), ?_⟩
    refine Ret.at (impl_IntOf_c (n := 1) (by omega) (by omega)) ?_
    rintro v w3 ⟨vs, f, hv, ho, _, y3⟩
    subst hv
    obtain ⟨g0, gp, gn, gc, gz, rfl, hg, hgi⟩ := open_Signed ho.reps (enc_code _)
    refine ⟨_, _, _, _, rfl, y3, ?_⟩
    have hone : Reps w3 [.bool g0, .slice gp gn gc, .int .i64 0] (enc 1 ++ [.int 0]) := by
      rw [hg]; exact ⟨rfl, ⟨_, _, _, rfl, hgi⟩, rfl, trivial⟩
    refine Ret.at (impl_DecCmp_c (hr.ext (X2.trans y3)) hone rfl rfl) ?_
    rintro v w4 ⟨hv, y4⟩
    subst hv
    refine ⟨_, rfl, ?_, (X2.trans y3).trans y4⟩
    have e2 : a0 = false := by simpa using e2
    subst e2
    simp only [taxOk, e1, show decide (a1z.length <= 1) = true by simp; omega, Bool.and_self, Bool.not_false, Bool.true_and]
  · have e2 : a0 = true := by simpa using e2
    simp only [taxOk, e2, Bool.not_true, Bool.and_false, Bool.false_and]
  · simp only [taxOk, show decide (a1z.length <= 1) = false by simp; omega, Bool.and_false, Bool.false_and]
  · simp only [taxOk, e1, Bool.false_and]
end Go.Proofs.YtgbknjdjbahdkaaGreatDoor
namespace Go.Proofs.YtgbknjdjbahdkaaGreatDoor
open Go Go.Proofs.YtgbknjdjbahdkaaGreatDoor.Sx
theorem impl_RatMoney_n {w : World} {xs : List Value} {N : Int} {D : Nat} {m : Int} (cur : ByteArray) (h : Reps w xs (rmk N D)) (hok : ratOk (rmk N D) = true) (hN : (digs N.natAbs).length <= 10) (hD : (digs D).length <= 6) (ht : Tab w) :
    Ret P n_impl_RatMoney [.string cur, .agg ⟨xs⟩, .int .i64 m] w fun v w' => ∃ vs1 f1 vs2 f2, v = .tuple #[.agg ⟨vs1⟩, .agg ⟨vs2⟩, .bool (rmOk cur N D m)] /\ Owns w' w.heap.size vs1 (rmMoney cur N D m) f1 /\ f1.Nodup /\ Owns w' w.heap.size vs2 (rmRest cur N D m) f2 /\ f2.Nodup /\ (∀ k ∈ f1, k ∉ f2) /\ Ext w w' := by
  have hr := h
  obtain ⟨p1, n1, c1, p2, n2, c2, rfl, i1, i2, li1, li2, he, hd⟩ := rmk_open h hok
  refine impl_RatMoney_ret ?_
  unfold impl_RatMoney
  intro r w1 hn1 r1 w2 hn2 r2 w3 hn3
  have e1 := hn1.r_eq; have e2 := hn2.r_eq; have e3 := hn3.r_eq; have z1 := hn1.size; have z2 := hn2.size; have z3 := hn3.size
  have X := (hn1.ext.trans hn2.ext).trans hn3.ext
  have b0 := (hn1.blk.ext hn2.ext).ext hn3.ext; have b1 := hn2.blk.ext hn3.ext; have b2 := hn3.blk
  refine ⟨_, _, _, _, _, _, _, b0.loadA0 (by kernel_rfl), ?_⟩
  refine Ret.at (impl_RatRest_n (m := m) (hr.ext X) hok hN hD) ?_
  rintro v w4 ⟨vs4, f4, vsr, fr, hv, ho4, nd4, hor, ndr, dis, y4⟩
  subst hv
  have l4 := y4.le
  have hr4 := ho4.reps; have hrr := hor.reps
  obtain ⟨s0, sp, sn, sc, sz, rfl, _, _⟩ := open_Signed hr4 (enc_code _)
  have rcode : (rs N D m).map D0.code = [.bool, .ints, .ints] := by
    unfold rs
    split
    · exact redR_code _ _
    · rfl
  obtain ⟨g0, gp, gn, gc, gz, gp2, gn2, gc2, gz2, rfl, _, _, _⟩ := open_Rat hrr rcode
  refine ⟨_, _, _, _, _, _, _, _, _, _, _, _, rfl, ?_⟩
  intro r3 w5 hn5 r4 w6 hn6
  have e5 := hn5.r_eq; have z5 := hn5.size; have e6 := hn6.r_eq; have z6 := hn6.size
  obtain ⟨w7, st7, hb7, ch7, sz7⟩ := (hn5.blk.ext hn6.ext).storeA0 (P := P) (t := T_impl_Signed) (xs := [.bool s0, .slice sp sn sc]) (by kernel_rfl) rfl (by simp [Value.oneCell'])
  obtain ⟨w8, st8, hb8, ch8, sz8⟩ := (hn6.blk.chg ch7 (by simp; omega)).storeA0 (P := P) (t := T_impl_Rat) (xs := [.bool g0, .slice gp gn gc, .slice gp2 gn2 gc2]) (by kernel_rfl) rfl (by simp [Value.oneCell'])
  have Z : Ext w4 w8 := ((hn5.ext.trans hn6.ext).chg ch7 (by simp; omega)).chg ch8 (by simp; omega)
  have k3 := hb7.chg ch8 (by simp; omega)
  have lZ := Z.le
  have Y8 := y4.trans Z
  refine ⟨w7, st7, w8, st8, ?_⟩
  refine ifN (fun hm1 => ?_) (fun hm1 => ?_)
  · obtain ⟨W1, W2, a1, _, a2, a3, a4, a5, a6, a7⟩ := two_end (t1 := T_impl_Money) (t2 := T_impl_Rat) (b1.ext Y8) (b2.ext Y8) (X.trans Y8) (own_money0 _ (r2 + 1)) (own_rat0 _ (r2 + 1)) (by kernel_rfl) rfl (by kernel_rfl) rfl (by omega) (by omega) (by omega) (by omega) (by omega) (by omega)
    have hno : rmOk cur N D m = false := by rw [rmOk, hm1]; rfl
    exact ⟨W1, a1, W2, a2, _, _, _, _, _, a3, _, _, _, _, _, _, _, a4, _, [], _, [], by rw [hno], by rw [rmMoney, hno]; exact a5, List.nodup_nil, by rw [rmRest, hno]; exact a6, List.nodup_nil, fun k hk => by simp at hk, a7⟩
  ·
    refine ⟨_, _, _, _, k3.loadA0 (by kernel_rfl), ?_⟩
    refine Ret.at (impl_moneyOf_s (ht.ext (X.trans Y8)) cur (ho4.ext Z) nd4 (show w3.heap.size <= w8.heap.size by omega)) ?_
    rintro v w9 ⟨vs9, f9, hv, ho9, nd9, sub9, y9⟩
    subst hv
    have hr9 := ho9.reps
    obtain ⟨m0, m1, mp, mn, mc, mz, rfl, _, _⟩ := open_Money hr9 (moneyMk_code _ _)
    refine ⟨_, _, _, _, _, _, rfl, ?_⟩
    intro r5 w10 hn10
    have e10 := hn10.r_eq; have z10 := hn10.size; have l9 := y9.le
    obtain ⟨w11, st11, hb11, y11⟩ := hn10.fill (P := P) (t := T_impl_Money) (xs := [.string m0, .bool m1, .slice mp mn mc]) (by simp [Value.oneCell']) (by kernel_rfl) rfl
    have Y11 := (Y8.trans y9).trans y11
    refine ⟨w11, st11, ?_⟩
    refine ifN (fun hm2 => ?_) (fun hm2 => ?_)
    · obtain ⟨W1, W2, a1, _, a2, a3, a4, a5, a6, a7⟩ := two_end (t1 := T_impl_Money) (t2 := T_impl_Rat) (b1.ext Y11) (b2.ext Y11) (X.trans Y11) (own_money0 _ (r2 + 1)) (own_rat0 _ (r2 + 1)) (by kernel_rfl) rfl (by kernel_rfl) rfl (by omega) (by omega) (by omega) (by omega) (by omega) (by omega)
      have hno : rmOk cur N D m = false := by
        have z1' : rr N D m = rround N D m := by rw [rr, hm1]; rfl
        rw [z1'] at hm2
        rw [rmOk, hm1, hm2]; rfl
      exact ⟨W1, a1, W2, a2, _, _, _, _, _, a3, _, _, _, _, _, _, _, a4, _, [], _, [], by rw [hno], by rw [rmMoney, hno]; exact a5, List.nodup_nil, by rw [rmRest, hno]; exact a6, List.nodup_nil, fun k hk => by simp at hk, a7⟩
    have D' := Ext.drew w11
    have Y12 := Y11.trans D'
    have q1 := b1.ext Y12; have q2 := b2.ext Y12
    have k4 := hb8.ext ((y9.trans y11).trans D'); have k5 := hb11.ext D'
    have o1 := (ho9.ext y11).ext D'
    have o2 := (hor.ext Z).ext ((y9.trans y11).trans D')
    have l11 := y11.le
    obtain ⟨W1, W2, a1, ch1, a2, a3, a4, a5, a6, a7⟩ := two_end (t1 := T_impl_Money) (t2 := T_impl_Rat) q1 q2 (X.trans Y12) o1 o2 (by kernel_rfl) rfl (by kernel_rfl) rfl (by omega) (by omega) (by omega) (by omega) (by omega) (by omega)
    have z1' : rr N D m = rround N D m := by rw [rr, hm1]; rfl
    rw [z1'] at hm2 a5
    have hyes : rmOk cur N D m = true := by rw [rmOk, hm1, hm2]; rfl
    refine ⟨[r1], _, _, _, _, _, fun W hW => (k5.chg (show Chg [r1] w11.drew W from hW) (by simp; omega)).loadA0 (by kernel_rfl), _, _, _, _, _, _, _, fun W hW => (k4.chg (show Chg [r1] w11.drew W from hW) (by simp; omega)).loadA0 (by kernel_rfl), W1, a1, show Chg [r1] w11.drew W1 from ch1, W2, a2, _, _, _, _, _, a3, _, _, _, _, _, _, _, a4, _, f9, _, fr, by rw [hyes], ?_, nd9, ?_, ndr, fun k hk => dis k (sub9 k hk), a7⟩
    · rw [rmMoney, hyes]
      rw [moneyMk, hm2] at a5
      exact a5
    · rw [rmRest, hyes]
      rw [rs, hm1] at a6
      exact a6
theorem impl_DecRat_n {w : World} {xs : List Value} {m t : Nat} (h : Reps w xs (dnn m (t : Int))) (hm : (digs m).length <= 6) (ht : t <= 30) :
    Ret P n_impl_DecRat [.agg ⟨xs⟩] w fun v w' => ∃ vs f, v = .agg ⟨vs⟩ /\ Owns w' w.heap.size vs (redR (m : Int) (10 ^ t)) f /\ f.Nodup /\ Ext w w' := by
  have hr := h
  obtain ⟨a0, ap, an, ac, az, a2, rfl, hd, ha⟩ := open_Dec h rfl
  simp only [dnn, List.cons.injEq, D0.bool.injEq, D0.ints.injEq, D0.int.injEq, and_true] at hd
  obtain ⟨rfl, rfl, rfl⟩ := hd
  have hla := ha.1
  have hpow : 0 < 10 ^ t := Nat.pow_pos (by decide)
  have hten := ten_len ht
  refine impl_DecRat_ret ?_
  unfold impl_DecRat
  intro r w1 hn1 r1 w2 hn2
  have e1 := hn1.r_eq; have e2 := hn2.r_eq; have z1 := hn1.size; have z2 := hn2.size
  have X := hn1.ext.trans hn2.ext
  have b0 := hn1.blk.ext hn2.ext; have b1 := hn2.blk
  refine ⟨_, _, _, _, _, b0.loadA0 (by kernel_rfl), ?_⟩
  refine Ret.at (impl_DecOk_c (hr.ext X) rfl) ?_
  rintro v w3 ⟨hv, y3⟩
  subst hv
  rw [dnn_ok hm ⟨by omega, by omega⟩]
  refine ⟨_, rfl, ifN (fun hh => absurd hh (by simp)) (fun _ => ?_)⟩
  have D := Ext.drew w3
  have Y := y3.trans D
  have X4 := X.trans Y
  have lY := Y.le
  have b0 := b0.ext Y; have b1 := b1.ext Y
  refine ⟨_, _, _, _, fun W hW => (b0.ext hW).loadAAt 0 [.bool false, .slice ap an ac] rfl (by kernel_rfl) rfl, _, fun W hW => (b0.ext hW).loadAt 2 rfl (by kernel_rfl) rfl, ?_⟩
  intro ss w4 F1
  have S1 := (FlSt.start (o := .cells ⟨[.bool false, .slice none 0 0, .slice none 0 0]⟩ T_impl_Rat (0, 0)) w3.drew).step F1
  refine Ret.at (impl_natTen_c (k := (t : Int)) (by omega) (by omega)) ?_
  rintro v w5 ⟨p5, n5, c5, hv, o5, y5⟩
  subst hv
  rw [Int.toNat_natCast] at o5
  have l5 := o5.ints.1
  refine ⟨_, _, _, rfl, y5, ?_⟩
  intro ss1 w6 F2
  have S2 := (S1.ext y5).step F2
  have hs : Reps w6 [.bool false, .slice ap an ac] (enc (m : Int)) := by
    rw [natCast_enc]
    exact ⟨rfl, ⟨_, _, _, rfl, ha.ext (X4.trans S2.1)⟩, trivial⟩
  refine Ret.at (impl_reduce_c hs (o5.ints.ext F2.ext) hpow (by rw [Int.natAbs_natCast]; omega) (by omega)) ?_
  rintro v w7 ⟨vs7, f7, hv, ho7, nd7, y7⟩
  subst hv
  have hr7 := ho7.reps
  obtain ⟨g0, gp, gn, gc, gz, gp2, gn2, gc2, gz2, rfl, _, _, _⟩ := open_Rat hr7 (redR_code _ _)
  refine ⟨_, _, _, _, _, _, _, _, rfl, ?_⟩
  intro ss2 w8 r8 F3 G
  have S3 := (S2.ext y7).step F3
  obtain ⟨hr8, hbk⟩ := S3.get G
  have B8 : Blk w8 r8 T_impl_Rat [.bool false, .slice none 0 0, .slice none 0 0] := hbk
  obtain ⟨w9, st9, hb9, ch9, sz9⟩ := B8.storeA0 (P := P) (t := T_impl_Rat) (xs := [.bool g0, .slice gp gn gc, .slice gp2 gn2 gc2]) (by kernel_rfl) rfl (by simp [Value.oneCell'])
  have hni := Owns.notin B8 (by decide) (ho7.ext F3.ext)
  have ho9 := (ho7.ext F3.ext).chg ch9 (fun k hk hm' => hni (by simp at hm'; rwa [<- hm']))
  have Z9 : Ext w3.drew w9 := S3.1.chg ch9 (by simp; exact hr8)
  have lZ := S2.1.le
  obtain ⟨W', st, ld, ow, xx, _, _⟩ := agg_end (t := T_impl_Rat) (b1.ext Z9) (X4.trans Z9) (by omega) ho9 (by kernel_rfl) rfl (by omega) (by omega)
  exact ⟨w9, st9, _, _, _, _, _, _, _, hb9.loadA0 (by kernel_rfl), W', st, _, _, _, _, _, _, _, ld, _, f7, rfl, ow, nd7, xx⟩
theorem impl_MoneyRat_n {w : World} {xs : List Value} {c : ByteArray} {N : Int} (h : Reps w xs (.str c :: enc N)) (hok : moneyOk (.str c :: enc N) = true) (ht : Tab w) :
    Ret P n_impl_MoneyRat [.agg ⟨xs⟩] w fun v w' => ∃ vs f, v = .agg ⟨vs⟩ /\ Owns w' w.heap.size vs (rmk N 1) f /\ f.Nodup /\ Ext w w' := by
  have hr := h
  obtain ⟨t0, a0, ap, an, ac, az, rfl, hd, ha⟩ := open_Money h rfl
  simp only [enc, List.cons.injEq, D0.str.injEq, D0.bool.injEq, D0.ints.injEq, and_true] at hd
  obtain ⟨rfl, rfl, rfl⟩ := hd
  have hla := ha.1
  have h4 : (digs N.natAbs).length <= 4 := by
    simp only [moneyOk, enc, Bool.and_eq_true, decide_eq_true_eq] at hok
    exact hok.2
  refine impl_MoneyRat_ret ?_
  unfold impl_MoneyRat
  intro r w1 hn1 r1 w2 hn2
  have e1 := hn1.r_eq; have e2 := hn2.r_eq; have z1 := hn1.size; have z2 := hn2.size
  have X := hn1.ext.trans hn2.ext
  have b0 := hn1.blk.ext hn2.ext; have b1 := hn2.blk
  refine ⟨_, _, _, _, _, b0.loadA0 (by kernel_rfl), ?_⟩
  refine Ret.at (impl_MoneyOk_c (ht.ext X) (hr.ext X) rfl) ?_
  rintro v w3 ⟨hv, y3⟩
  subst hv
  rw [hok]
  refine ⟨_, rfl, ifN (fun hh => absurd hh (by simp)) (fun _ => ?_)⟩
  have l3 := y3.le
  have X3 := X.trans y3
  have hs : Reps w3 [.bool (decide (N < 0)), .slice ap an ac] (enc N) := ⟨rfl, ⟨_, _, _, rfl, ha.ext X3⟩, trivial⟩
  refine ⟨_, _, _, _, (b0.ext y3).loadAAt 1 [.bool (decide (N < 0)), .slice ap an ac] rfl (by kernel_rfl) rfl, ?_⟩
  refine Ret.at (impl_intCopy_c hs (enc_code _) (by simp only [bulks, enc, D0.bulk, List.map_cons, List.map_nil, List.sum_cons, List.sum_nil]; omega)) ?_
  rintro v w4 ⟨vs4, f4, hv, ho4, nd4, y4⟩
  subst hv
  have hr4 := ho4.reps
  obtain ⟨s0, sp, sn, sc, sz, rfl, _, _⟩ := open_Signed hr4 (enc_code _)
  refine ⟨_, _, _, _, rfl, ?_⟩
  intro r5 w5 hn5
  have e5 := hn5.r_eq; have z5 := hn5.size; have l4 := y4.le
  have hone : Own w5 w3.heap.size T_int 1 (some ⟨r5, 0, none⟩) 1 1 ((digs 1).map (Value.int .i64)) := by
    rw [digs_one]
    exact Own.of_blk hn5.blk (by omega) rfl (by decide)
  have ho5 := own_rmk (ho4.ext hn5.ext) hone
  obtain ⟨W', st, ld, ow, xx, _, _⟩ := agg_end (t := T_impl_Rat) ((b1.ext y3).ext (y4.trans hn5.ext)) (X3.trans (y4.trans hn5.ext)) (by omega) ho5 (by kernel_rfl) rfl (by omega) (by omega)
  refine ⟨W', st, _, _, _, _, _, _, _, ld, _, _, rfl, ow, ?_, xx⟩
  exact nodup_append nd4 (by simp) (m := w4.heap.size) (fun k hk => (ho4.lt k hk).2) (fun k hk => by simp at hk; omega)
end Go.Proofs.YtgbknjdjbahdkaaGreatDoor
namespace Go.Proofs.YtgbknjdjbahdkaaGreatDoor
open Go Go.Proofs.YtgbknjdjbahdkaaGreatDoor.Sx
def RV (d : List D0) (N : Int) (D : Nat) : Prop := ∃ (n : Int) (e k : Nat), d = rmk n e /\ ratOk (rmk n e) = true /\ 0 < e /\ 0 < k /\ N = n * k /\ D = e * k
theorem RV.pos {d : List D0} {N : Int} {D : Nat} (h : RV d N D) : 0 < D := by
  obtain ⟨n, e, k, _, _, h1, h2, _, rfl⟩ := h
  exact Nat.mul_pos h1 h2
theorem RV.scale {d : List D0} {N : Int} {D : Nat} (h : RV d N D) {j : Nat} (hj : 0 < j) : RV d (N * j) (D * j) := by
  obtain ⟨n, e, k, h0, h1, h2, h3, rfl, rfl⟩ := h
  exact ⟨n, e, k * j, h0, h1, h2, Nat.mul_pos h3 hj, by rw [Int.natCast_mul, Int.mul_assoc], by rw [Nat.mul_assoc]⟩
theorem RV.code {d : List D0} {N : Int} {D : Nat} (h : RV d N D) : d.map D0.code = [.bool, .ints, .ints] := by
  obtain ⟨n, e, k, rfl, _⟩ := h
  rfl
theorem red_parts (N : Int) {D : Nat} (hD : 0 < D) : ∃ g : Nat, 0 < g /\ N = redN N D * g /\ D = redD N D * g := by
  refine ⟨Nat.gcd N.natAbs D, gcd_pos_right hD, ?_, ?_⟩
  · unfold redN
    have h := Nat.div_mul_cancel (Nat.gcd_dvd_left N.natAbs D)
    generalize Nat.gcd N.natAbs D = g at *
    generalize N.natAbs / g = q at *
    split
    · rw [Int.neg_mul, <- Int.natCast_mul, h]; omega
    · rw [<- Int.natCast_mul, h]; omega
  · unfold redD
    exact (Nat.div_mul_cancel (Nat.gcd_dvd_right N.natAbs D)).symm
theorem RV.red {N : Int} {D : Nat} (hD : 0 < D) (h1 : (digs N.natAbs).length <= 18) (h2 : (digs D).length <= 18) : redOk N D = true /\ RV (redR N D) N D := by
  have hok := redOk_small h1 h2
  obtain ⟨g, hg, e1, e2⟩ := red_parts N hD
  refine ⟨hok, redN N D, redD N D, g, redR_yes hok, ?_, redD_pos hD, hg, e1, e2⟩
  have := redR_ok hD hok
  rwa [redR_yes hok] at this
theorem RV.red_by {M : Int} {E k : Nat} {N : Int} {D : Nat} (hk : 0 < k) (hD : 0 < D) (e1 : N = M * k) (e2 : D = E * k) (h1 : (digs N.natAbs).length <= 18) (h2 : (digs D).length <= 18) : redOk M E = true /\ RV (redR M E) N D := by
  have hE : 0 < E := by
    rcases Nat.eq_zero_or_pos E with h | h
    · subst h; rw [Nat.zero_mul] at e2; omega
    · exact h
  have l1 : M.natAbs <= N.natAbs := by rw [e1, Int.natAbs_mul, Int.natAbs_natCast]; exact Nat.le_mul_of_pos_right _ hk
  have l2 : E <= D := by rw [e2]; exact Nat.le_mul_of_pos_right _ hk
  obtain ⟨a, b⟩ := RV.red (N := M) hE (Nat.le_trans (digs_mono_len l1) h1) (Nat.le_trans (digs_mono_len l2) h2)
  exact ⟨a, by rw [e1, e2]; exact b.scale hk⟩
theorem cast_mul2 (a b c d : Int) : a * b * (c * d) = a * c * (b * d) := by
  rw [Int.mul_assoc, Int.mul_assoc, <- Int.mul_assoc b c d, Int.mul_comm b c, Int.mul_assoc c b d]
theorem add_cross (n1 n2 e1 e2 k1 k2 : Int) : n1 * k1 * (e2 * k2) + n2 * k2 * (e1 * k1) = (n1 * e2 + n2 * e1) * (k1 * k2) := by
  rw [cast_mul2, cast_mul2 n2 k2, Int.add_mul, Int.mul_comm k2 k1]
theorem rv_add {d1 d2 : List D0} {N1 N2 : Int} {D1 D2 : Nat} (r1 : RV d1 N1 D1) (r2 : RV d2 N2 D2) (h1 : (digs (N1 * D2 + N2 * D1).natAbs).length <= 18) (h2 : (digs (D1 * D2)).length <= 18) :
    ∃ n1 n2 : Int, ∃ e1 e2 : Nat, d1 = rmk n1 e1 /\ d2 = rmk n2 e2 /\ ratOk (rmk n1 e1) = true /\ ratOk (rmk n2 e2) = true /\ redOk (n1 * e2 + n2 * e1) (e1 * e2) = true /\ RV (redR (n1 * e2 + n2 * e1) (e1 * e2)) (N1 * D2 + N2 * D1) (D1 * D2) := by
  have p := Nat.mul_pos r1.pos r2.pos
  obtain ⟨n1, e1, k1, a1, b1, c1, f1, rfl, rfl⟩ := r1
  obtain ⟨n2, e2, k2, a2, b2, c2, f2, rfl, rfl⟩ := r2
  obtain ⟨x, y⟩ := RV.red_by (M := n1 * e2 + n2 * e1) (E := e1 * e2) (k := k1 * k2) (Nat.mul_pos f1 f2) p (by rw [Int.natCast_mul, Int.natCast_mul, Int.natCast_mul, add_cross]) (by rw [Nat.mul_mul_mul_comm]) h1 h2
  exact ⟨n1, n2, e1, e2, a1, a2, b1, b2, x, y⟩
theorem RV.int {z : Int} (h : (digs z.natAbs).length <= 18) : RV (rmk z 1) z 1 := ⟨z, 1, 1, rfl, rmk_int_ok h, by decide, by decide, by omega, rfl⟩
theorem impl_RatAdd_v {w : World} {xs ys : List Value} {d1 d2 : List D0} {N1 N2 : Int} {D1 D2 : Nat} (h : Reps w xs d1) (g : Reps w ys d2) (r1 : RV d1 N1 D1) (r2 : RV d2 N2 D2) (h1 : (digs (N1 * D2 + N2 * D1).natAbs).length <= 18) (h2 : (digs (D1 * D2)).length <= 18) :
    Ret P n_impl_RatAdd [.agg ⟨xs⟩, .agg ⟨ys⟩] w fun v w' => ∃ vs d, v = .tuple #[.agg ⟨vs⟩, .bool true] /\ Reps w' vs d /\ RV d (N1 * D2 + N2 * D1) (D1 * D2) /\ Ext w w' := by
  obtain ⟨n1, n2, e1, e2, rfl, rfl, b1, b2, x, y⟩ := rv_add r1 r2 h1 h2
  refine (impl_RatAdd_n h g b1 b2).mono ?_
  rintro v w' ⟨vs, f, hv, ho, _, hx⟩
  rw [x] at hv
  exact ⟨vs, _, hv, ho.reps, y, hx⟩
theorem impl_RatInt_v {w : World} {xs : List Value} {x : Int} (h : Reps w xs (enc x)) (hx : (digs x.natAbs).length <= 18) :
    Ret P n_impl_RatInt [.agg ⟨xs⟩] w fun v w' => ∃ vs d, v = .tuple #[.agg ⟨vs⟩, .bool true] /\ Reps w' vs d /\ RV d x 1 /\ Ext w w' := by
  obtain ⟨a, b⟩ := RV.red (N := x) (D := 1) (by decide) hx (Nat.le_trans one_len1 (by decide))
  refine (impl_RatInt_n h (by omega)).mono ?_
  rintro v w' ⟨vs, f, hv, ho, _, hx⟩
  rw [a] at hv
  exact ⟨vs, _, hv, ho.reps, b, hx⟩
theorem impl_DecRat_v {w : World} {xs : List Value} {m t : Nat} (h : Reps w xs [.bool false, .ints (digs m), .int (t : Int)]) (hm : (digs m).length <= 6) (ht : t <= 30) :
    Ret P n_impl_DecRat [.agg ⟨xs⟩] w fun v w' => ∃ vs d, v = .agg ⟨vs⟩ /\ Reps w' vs d /\ RV d (m : Int) (10 ^ t) /\ Ext w w' := by
  have h10 : 0 < 10 ^ t := Nat.pos_of_ne_zero (by simp)
  have := ten_len ht
  obtain ⟨a, b⟩ := RV.red (N := (m : Int)) h10 (by rw [Int.natAbs_natCast]; omega) (by omega)
  refine (impl_DecRat_n h hm ht).mono ?_
  rintro v w' ⟨vs, f, hv, ho, _, hx⟩
  exact ⟨vs, _, hv, ho.reps, b, hx⟩
theorem impl_MoneyRat_v {w : World} {xs : List Value} {c : ByteArray} {N : Int} (h : Reps w xs (.str c :: enc N)) (hok : moneyOk (.str c :: enc N) = true) (ht : Tab w) :
    Ret P n_impl_MoneyRat [.agg ⟨xs⟩] w fun v w' => ∃ vs d, v = .agg ⟨vs⟩ /\ Reps w' vs d /\ RV d N 1 /\ Ext w w' := by
  have hl : (digs N.natAbs).length <= 4 := by
    have h2 : (curKnown c && intOk (enc N) && decide ((digs N.natAbs).length <= 4)) = true := hok
    simp only [Bool.and_eq_true, decide_eq_true_eq] at h2
    exact h2.2
  refine (impl_MoneyRat_n h hok ht).mono ?_
  rintro v w' ⟨vs, f, hv, ho, _, hx⟩
  exact ⟨vs, _, hv, ho.reps, RV.int (by omega), hx⟩
end Go.Proofs.YtgbknjdjbahdkaaGreatDoor
namespace Go.Proofs.YtgbknjdjbahdkaaGreatDoor
open Go Go.Proofs.YtgbknjdjbahdkaaGreatDoor.Sx
def alk : List D0 -> List D0 -> Bool
  | [.str c, .bool b, .ints z], [.str c2, .bool b2, .ints z2] => moneyOk [.str c, .bool b, .ints z] && (moneyOk [.str c2, .bool b2, .ints z2] && decide (c = c2))
  | _, _ => false
def mres (al : Bool) (c : ByteArray) (z : Int) : Bool × List D0 := if al then (moneyOk (.str c :: enc z), moneyMk c z) else (false, zeroMoney)
theorem mres_code (al : Bool) (c : ByteArray) (z : Int) : (mres al c z).2.map D0.code = [.str, .bool, .ints] := by
  unfold mres
  split
  · exact moneyMk_code _ _
  · rfl
theorem alk_parts {c c2 : ByteArray} {b b2 : Bool} {z z2 : List Int} (h : alk [.str c, .bool b, .ints z] [.str c2, .bool b2, .ints z2] = true) : moneyOk [.str c, .bool b, .ints z] = true /\ moneyOk [.str c2, .bool b2, .ints z2] = true /\ c = c2 := by
  simpa [alk] using h
theorem impl_intAdd_n {w : World} {xs ys : List Value} {x y : Int} (h : Reps w xs (enc x)) (k : Reps w ys (enc y)) (hx : x.natAbs <= 1000000000000000000000000000000000000) (hy : y.natAbs <= 1000000000000000000000000000000000000) :
    Ret P n_impl_intAdd [.agg ⟨xs⟩, .agg ⟨ys⟩] w fun v w' => ∃ vs f, v = .agg ⟨vs⟩ /\ Owns w' w.heap.size vs (enc (x + y)) f /\ f.Nodup /\ Ext w w' := by
  have d1 : (digs x.natAbs).length <= 6 := digs_len_le (by omega)
  have d2 : (digs y.natAbs).length <= 6 := digs_len_le (by omega)
  exact (impl_intAdd_c h k (by omega) (by omega)).mono fun v w' ⟨p, n, c, hv, ho, hx⟩ => ⟨_, _, hv, Owns.int2 ho, nodup_opt p, hx⟩
theorem impl_alike_c {w : World} {xs ys : List Value} {c c2 : ByteArray} {b b2 : Bool} {z z2 : List Int} (h : Reps w xs [.str c, .bool b, .ints z]) (g : Reps w ys [.str c2, .bool b2, .ints z2]) (ht : Tab w) :
    Ret P n_impl_alike [.agg ⟨xs⟩, .agg ⟨ys⟩] w fun v w' => v = .bool (alk [.str c, .bool b, .ints z] [.str c2, .bool b2, .ints z2]) /\ Ext w w' := by
  have hr := h; have gr := g
  obtain ⟨cur, a0, ap, an, ac, az, rfl, hd, ha⟩ := open_Money h rfl
  cases hd
  obtain ⟨cur2, d0, bp, bn, bc, bz, rfl, hd, hb⟩ := open_Money g rfl
  cases hd
  refine impl_alike_ret ?_
  unfold impl_alike
  intro r w1 hn1 r1 w2 hn2
  have X := hn1.ext.trans hn2.ext
  have q0 := hn1.blk.ext hn2.ext; have q1 := hn2.blk
  refine ⟨_, _, _, _, _, q0.loadA0 (by kernel_rfl), ?_⟩
  refine Ret.at (impl_MoneyOk_c (ht.ext X) (hr.ext X) rfl) ?_
  rintro v w3 ⟨hv, y3⟩
  subst hv
  refine ⟨_, rfl, fun e => ⟨_, _, _, _, _, (q1.ext y3).loadA0 (by kernel_rfl), ?_⟩, fun e => ⟨fun hh => absurd hh (by simp), fun _ => ⟨by simp only [alk, e, Bool.false_and], X.trans y3⟩⟩⟩
  have X3 := X.trans y3
  refine Ret.at (impl_MoneyOk_c (ht.ext X3) (gr.ext X3) rfl) ?_
  rintro v w4 ⟨hv, y4⟩
  subst hv
  have Y := y3.trans y4
  exact ⟨_, rfl, fun e2 => ⟨_, (q0.ext Y).loadAt 0 rfl (by kernel_rfl) rfl, _, (q1.ext Y).loadAt 0 rfl (by kernel_rfl) rfl, by simp only [alk, e, e2, Bool.true_and], X.trans Y⟩, fun e2 => ⟨by simp only [alk, e, e2, Bool.false_and, Bool.and_false], X.trans Y⟩⟩
theorem impl_MoneyAdd_n {w : World} {xs ys : List Value} {c c2 : ByteArray} {b b2 : Bool} {z z2 : List Int} (h : Reps w xs [.str c, .bool b, .ints z]) (g : Reps w ys [.str c2, .bool b2, .ints z2]) (ht : Tab w) :
    Ret P n_impl_MoneyAdd [.agg ⟨xs⟩, .agg ⟨ys⟩] w fun v w' => ∃ vs f, v = .tuple #[.agg ⟨vs⟩, .bool (mres (alk [.str c, .bool b, .ints z] [.str c2, .bool b2, .ints z2]) c (ival [.bool b, .ints z] + ival [.bool b2, .ints z2])).1] /\ Owns w' w.heap.size vs (mres (alk [.str c, .bool b, .ints z] [.str c2, .bool b2, .ints z2]) c (ival [.bool b, .ints z] + ival [.bool b2, .ints z2])).2 f /\ f.Nodup /\ Ext w w' := by
  have hr := h; have gr := g
  obtain ⟨cur, a0, ap, an, ac, az, rfl, hd, ha⟩ := open_Money h rfl
  cases hd
  obtain ⟨cur2, d0, bp, bn, bc, bz, rfl, hd, hb⟩ := open_Money g rfl
  cases hd
  refine impl_MoneyAdd_ret ?_
  unfold impl_MoneyAdd
  intro r w1 hn1 r1 w2 hn2 r2 w3 hn3
  have e1 := hn1.r_eq; have e2 := hn2.r_eq; have e3 := hn3.r_eq; have s1 := hn1.size; have s2 := hn2.size; have s3 := hn3.size
  have X := (hn1.ext.trans hn2.ext).trans hn3.ext
  have q0 := (hn1.blk.ext hn2.ext).ext hn3.ext; have q1 := hn2.blk.ext hn3.ext; have q2 := hn3.blk
  refine ⟨_, _, _, _, _, q0.loadA0 (by kernel_rfl), _, _, _, _, _, q1.loadA0 (by kernel_rfl), ?_⟩
  refine Ret.at (impl_alike_c (hr.ext X) (gr.ext X) (ht.ext X)) ?_
  rintro v w4 ⟨hv, y4⟩
  subst hv
  have l4 := y4.le
  generalize hal : alk [.str c, .bool b, .ints z] [.str c2, .bool b2, .ints z2] = al
  refine ⟨_, rfl, ifN (fun hno => ?_) (fun hyes => ?_)⟩
  · subst hno
    obtain ⟨W', st', ld', ow', xx', _, _⟩ := agg_end (t := T_impl_Money) (q2.ext y4) (X.trans y4) (by omega) (own_money0 w4 (r2 + 1)) (by kernel_rfl) rfl (by omega) (by omega)
    exact ⟨W', st', _, _, _, _, _, ld', _, [], rfl, ow', List.nodup_nil, xx'⟩
  subst hyes
  obtain ⟨m1, m2, rfl⟩ := alk_parts hal
  have E1 := (intOk_enc (moneyOk_int m1)).1; have E2 := (intOk_enc (moneyOk_int m2)).1
  have B1 := money_bound m1; have B2 := money_bound m2
  have Y := y4.trans (Ext.drew w4)
  have X4 := X.trans Y
  have lY := Y.le
  have k0 := q0.ext Y; have k1 := q1.ext Y; have k2 := q2.ext Y
  have hx : Reps w4.drew [.bool b, .slice ap an ac] (enc (ival [.bool b, .ints z])) := by
    rw [<- E1]; exact ⟨rfl, ⟨_, _, _, rfl, ha.ext X4⟩, trivial⟩
  have hy : Reps w4.drew [.bool b2, .slice bp bn bc] (enc (ival [.bool b2, .ints z2])) := by
    rw [<- E2]; exact ⟨rfl, ⟨_, _, _, rfl, hb.ext X4⟩, trivial⟩
  generalize ival [.bool b, .ints z] = U at B1 hx
  generalize ival [.bool b2, .ints z2] = V at B2 hy
  refine ⟨_, fun W hW => (k0.ext hW).loadAt 0 rfl (by kernel_rfl) rfl, _, _, _, _, fun W hW => (k0.ext hW).loadAAt 1 [.bool b, .slice ap an ac] rfl (by kernel_rfl) rfl, _, _, _, _, fun W hW => (k1.ext hW).loadAAt 1 [.bool b2, .slice bp bn bc] rfl (by kernel_rfl) rfl, ?_⟩
  refine Ret.at (impl_intAdd_n hx hy B1 B2) ?_
  rintro v w6 ⟨vs6, f6, hv, ho6, nd6, y6⟩
  subst hv
  have Z6 := y6
  obtain ⟨g0, gp, gn, gc, gz, rfl, _, _⟩ := open_Signed ho6.reps (enc_code _)
  have l6 := y6.le
  refine ⟨_, _, _, _, rfl, y6, ?_⟩
  refine Ret.at (impl_moneyOf_s (ht.ext (X4.trans y6)) c ho6 nd6 (by omega)) ?_
  rintro v w7 ⟨vs7, f7, hv, ho7, nd7, _, y7⟩
  subst hv
  obtain ⟨u0, u1, up, un, uc, uz, rfl, _, _⟩ := open_Money ho7.reps (moneyMk_code _ _)
  obtain ⟨W', st', ld', ow', xx', _, _⟩ := agg_end (t := T_impl_Money) ((k2.ext Z6).ext y7) ((X4.trans Z6).trans y7) (by omega) ho7 (by kernel_rfl) rfl (by omega) (by omega)
  exact ⟨_, _, _, _, _, _, rfl, W', st', _, _, _, _, _, ld', _, f7, rfl, ow', nd7, xx'⟩
theorem impl_MoneySub_n {w : World} {xs ys : List Value} {c c2 : ByteArray} {b b2 : Bool} {z z2 : List Int} (h : Reps w xs [.str c, .bool b, .ints z]) (g : Reps w ys [.str c2, .bool b2, .ints z2]) (ht : Tab w) :
    Ret P n_impl_MoneySub [.agg ⟨xs⟩, .agg ⟨ys⟩] w fun v w' => ∃ vs f, v = .tuple #[.agg ⟨vs⟩, .bool (mres (alk [.str c, .bool b, .ints z] [.str c2, .bool b2, .ints z2]) c (ival [.bool b, .ints z] - ival [.bool b2, .ints z2])).1] /\ Owns w' w.heap.size vs (mres (alk [.str c, .bool b, .ints z] [.str c2, .bool b2, .ints z2]) c (ival [.bool b, .ints z] - ival [.bool b2, .ints z2])).2 f /\ f.Nodup /\ Ext w w' := by
  have hr := h; have gr := g
  obtain ⟨cur, a0, ap, an, ac, az, rfl, hd, ha⟩ := open_Money h rfl
  cases hd
  obtain ⟨cur2, d0, bp, bn, bc, bz, rfl, hd, hb⟩ := open_Money g rfl
  cases hd
  refine impl_MoneySub_ret ?_
  unfold impl_MoneySub
  intro r w1 hn1 r1 w2 hn2 r2 w3 hn3
  have e1 := hn1.r_eq; have e2 := hn2.r_eq; have e3 := hn3.r_eq; have s1 := hn1.size; have s2 := hn2.size; have s3 := hn3.size
  have X := (hn1.ext.trans hn2.ext).trans hn3.ext
  have q0 := (hn1.blk.ext hn2.ext).ext hn3.ext; have q1 := hn2.blk.ext hn3.ext; have q2 := hn3.blk
  refine ⟨_, _, _, _, _, q0.loadA0 (by kernel_rfl), _, _, _, _, _, q1.loadA0 (by kernel_rfl), ?_⟩
  refine Ret.at (impl_alike_c (hr.ext X) (gr.ext X) (ht.ext X)) ?_
  rintro v w4 ⟨hv, y4⟩
  subst hv
  have l4 := y4.le
  generalize hal : alk [.str c, .bool b, .ints z] [.str c2, .bool b2, .ints z2] = al
  refine ⟨_, rfl, ifN (fun hno => ?_) (fun hyes => ?_)⟩
  · subst hno
    obtain ⟨W', st', ld', ow', xx', _, _⟩ := agg_end (t := T_impl_Money) (q2.ext y4) (X.trans y4) (by omega) (own_money0 w4 (r2 + 1)) (by kernel_rfl) rfl (by omega) (by omega)
    exact ⟨W', st', _, _, _, _, _, ld', _, [], rfl, ow', List.nodup_nil, xx'⟩
  subst hyes
  obtain ⟨m1, m2, rfl⟩ := alk_parts hal
  have E1 := (intOk_enc (moneyOk_int m1)).1; have E2 := (intOk_enc (moneyOk_int m2)).1
  have B1 := money_bound m1; have B2 := money_bound m2
  have Y := y4.trans (Ext.drew w4)
  have X4 := X.trans Y
  have lY := Y.le
  have k0 := q0.ext Y; have k1 := q1.ext Y; have k2 := q2.ext Y
  have hx : Reps w4.drew [.bool b, .slice ap an ac] (enc (ival [.bool b, .ints z])) := by
    rw [<- E1]; exact ⟨rfl, ⟨_, _, _, rfl, ha.ext X4⟩, trivial⟩
  have hy : Reps w4.drew [.bool b2, .slice bp bn bc] (enc (ival [.bool b2, .ints z2])) := by
    rw [<- E2]; exact ⟨rfl, ⟨_, _, _, rfl, hb.ext X4⟩, trivial⟩
  generalize ival [.bool b, .ints z] = U at B1 hx
  generalize ival [.bool b2, .ints z2] = V at B2 hy
  refine ⟨_, fun W hW => (k0.ext hW).loadAt 0 rfl (by kernel_rfl) rfl, _, _, _, _, fun W hW => (k0.ext hW).loadAAt 1 [.bool b, .slice ap an ac] rfl (by kernel_rfl) rfl, _, _, _, _, fun W hW => (k1.ext hW).loadAAt 1 [.bool b2, .slice bp bn bc] rfl (by kernel_rfl) rfl, ?_⟩
  have d2 : (digs V.natAbs).length <= 6 := digs_len_le (by omega)
  refine Ret.at (impl_intNeg_c hy (by omega)) ?_
  rintro v w5 ⟨vs5, f5, hv, ho5, _, y5⟩
  subst hv
  obtain ⟨n0, np, nn, nc, nz, rfl, _, _⟩ := open_Signed ho5.reps (enc_code _)
  have l5 := y5.le
  refine ⟨_, _, _, _, rfl, y5, ?_⟩
  refine Ret.at (impl_intAdd_n (hx.ext y5) ho5.reps B1 (by omega)) ?_
  rintro v w6 ⟨vs6, f6, hv, ho6, nd6, y6⟩
  subst hv
  have Z6 := y5.trans y6
  rw [<- Int.sub_eq_add_neg] at ho6
  obtain ⟨g0, gp, gn, gc, gz, rfl, _, _⟩ := open_Signed ho6.reps (enc_code _)
  have l6 := y6.le
  refine ⟨_, _, _, _, rfl, y6, ?_⟩
  refine Ret.at (impl_moneyOf_s (ht.ext (X4.trans Z6)) c ho6 nd6 (by omega)) ?_
  rintro v w7 ⟨vs7, f7, hv, ho7, nd7, _, y7⟩
  subst hv
  obtain ⟨u0, u1, up, un, uc, uz, rfl, _, _⟩ := open_Money ho7.reps (moneyMk_code _ _)
  obtain ⟨W', st', ld', ow', xx', _, _⟩ := agg_end (t := T_impl_Money) ((k2.ext Z6).ext y7) ((X4.trans Z6).trans y7) (by omega) ho7 (by kernel_rfl) rfl (by omega) (by omega)
  exact ⟨_, _, _, _, _, _, rfl, W', st', _, _, _, _, _, ld', _, f7, rfl, ow', nd7, xx'⟩
end Go.Proofs.YtgbknjdjbahdkaaGreatDoor
namespace Go.Proofs.YtgbknjdjbahdkaaGreatDoor
open Go Go.Proofs.YtgbknjdjbahdkaaGreatDoor.Sx
theorem decOk_parts {b : Bool} {z : List Int} {s : Int} (h : decOk [.bool b, .ints z, .int s] = true) : intOk [.bool b, .ints z] = true /\ natOk z = true /\ Limbs z /\ z.length <= 6 /\ 0 <= s /\ s <= 30 := by
  simp only [decOk, Bool.and_eq_true, decide_eq_true_eq] at h
  obtain ⟨⟨h1, h2⟩, h3⟩ := h
  have h4 : natOk z = true := by
    have := h1
    simp only [intOk, Bool.and_eq_true] at this
    exact this.1
  exact ⟨h1, h4, (natOk_spec.1 h4).1.1, h2, h3⟩
theorem taxOk_nn {b : Bool} {z : List Int} {s : Int} (h : taxOk [.bool b, .ints z, .int s] = true) : ∃ m t : Nat, b = false /\ z = digs m /\ s = (t : Int) /\ t <= 30 /\ (val z).toNat = m /\ s.toNat = t /\ m < 1000000000 := by
  simp only [taxOk, Bool.and_eq_true, decide_eq_true_eq, Bool.not_eq_true'] at h
  obtain ⟨⟨⟨h1, h2⟩, h3⟩, _⟩ := h
  obtain ⟨_, hno, hz, _, h4, h5⟩ := decOk_parts h1
  have hc := (natOk_spec.1 hno).1
  refine ⟨(val z).toNat, s.toNat, h3, (digs_val hc).symm, by omega, by omega, rfl, rfl, ?_⟩
  have hlt := val_lt hz
  have hp : (1000000000 : Int) ^ z.length <= 1000000000 := by
    match z, h2 with
    | [], _ => decide
    | [x], _ =>
      show (1000000000 : Int) ^ 1 <= 1000000000
      decide
    | _ :: _ :: _, h2 => simp at h2
  have := val_nonneg hz
  omega
theorem hundred_len {m : Nat} (h : m < 1000000000) : (digs (m * 100)).length <= 2 := digs_len 2 (by
  have : (1000000000 : Nat) ^ 2 = 1000000000000000000 := by decide
  omega)
theorem one_len {m : Nat} (h : m < 1000000000) : (digs m).length <= 1 := digs_len 1 (by simpa using h)
end Go.Proofs.YtgbknjdjbahdkaaGreatDoor
namespace Go.Proofs.YtgbknjdjbahdkaaGreatDoor
open Go Go.Proofs.YtgbknjdjbahdkaaGreatDoor.Sx
theorem rmMoney_code (c : ByteArray) (N : Int) (D : Nat) (m : Int) : (rmMoney c N D m).map D0.code = [.str, .bool, .ints] := by unfold rmMoney; split <;> rfl
theorem restR_code (N : Int) (D : Nat) (m : Int) : (restR N D m).map D0.code = [.bool, .ints, .ints] := redR_code _ _
theorem rmRest_code (c : ByteArray) (N : Int) (D : Nat) (m : Int) : (rmRest c N D m).map D0.code = [.bool, .ints, .ints] := by
  unfold rmRest
  split
  · exact restR_code _ _ _
  · rfl
theorem redR_cnt (n : Int) (d : Nat) : tcnts (redR n d) <= 100 := by
  unfold redR
  split
  · rename_i h
    simp only [redOk, Bool.and_eq_true, decide_eq_true_eq] at h
    simp only [rmk, tcnts, redN_abs]
    have : redD n d = d / Nat.gcd n.natAbs d := rfl
    rw [this]
    omega
  · decide
theorem rmMoney_cnt (c : ByteArray) (N : Int) (D : Nat) (m : Int) : tcnts (rmMoney c N D m) <= 1000000000 := by
  unfold rmMoney
  split
  · rename_i h
    simp only [rmOk, Bool.and_eq_true] at h
    have h2 := h.2
    simp only [moneyOk, enc, Bool.and_eq_true, decide_eq_true_eq] at h2
    simp only [enc, tcnts]
    omega
  · decide
theorem rmRest_cnt (c : ByteArray) (N : Int) (D : Nat) (m : Int) : tcnts (rmRest c N D m) <= 1000000000 := by
  unfold rmRest
  split
  · have := redR_cnt (N * ((1 : Nat) : Int) + -(rround N D m) * (D : Int)) (D * 1)
    unfold restR
    omega
  · decide
end Go.Proofs.YtgbknjdjbahdkaaGreatDoor
namespace Go.Proofs.YtgbknjdjbahdkaaGreatDoor
open Go Go.Proofs.YtgbknjdjbahdkaaGreatDoor.Sx
theorem alk_enc {c : ByteArray} {d p : Int} (h : moneyOk (.str c :: enc d) = true) (g : moneyOk (.str c :: enc p) = true) : alk (.str c :: enc d) (.str c :: enc p) = true := by
  have h' : moneyOk [.str c, .bool (decide (d < 0)), .ints (digs d.natAbs)] = true := h
  have g' : moneyOk [.str c, .bool (decide (p < 0)), .ints (digs p.natAbs)] = true := g
  show (moneyOk [.str c, .bool (decide (d < 0)), .ints (digs d.natAbs)] && (moneyOk [.str c, .bool (decide (p < 0)), .ints (digs p.natAbs)] && decide (c = c))) = true
  rw [h', g', decide_eq_true rfl]; rfl
theorem money_len {c : ByteArray} {d : Int} (h : moneyOk (.str c :: enc d) = true) : (digs d.natAbs).length <= 4 := by
  have h' : (curKnown c && intOk (enc d) && decide ((digs d.natAbs).length <= 4)) = true := h
  rw [Bool.and_eq_true, decide_eq_true_eq] at h'
  exact h'.2
theorem impl_MoneyAdd_e {w : World} {xs ys : List Value} {c : ByteArray} {d p : Int} (h : Reps w xs (.str c :: enc d)) (g : Reps w ys (.str c :: enc p)) (okd : moneyOk (.str c :: enc d) = true) (okp : moneyOk (.str c :: enc p) = true) (ht : Tab w) :
    Ret P n_impl_MoneyAdd [.agg ⟨xs⟩, .agg ⟨ys⟩] w fun v w' => ∃ vs f, v = .tuple #[.agg ⟨vs⟩, .bool (moneyOk (.str c :: enc (d + p)))] /\ Owns w' w.heap.size vs (moneyMk c (d + p)) f /\ f.Nodup /\ Ext w w' := by
  have k := impl_MoneyAdd_n h g ht
  change Ret P _ _ _ (fun v w' => ∃ vs f, v = .tuple #[.agg ⟨vs⟩, .bool (mres (alk (.str c :: enc d) (.str c :: enc p)) c (ival (enc d) + ival (enc p))).1] /\ Owns w' w.heap.size vs (mres (alk (.str c :: enc d) (.str c :: enc p)) c (ival (enc d) + ival (enc p))).2 f /\ f.Nodup /\ Ext w w') at k
  rw [alk_enc okd okp, ival_enc, ival_enc] at k
  exact k
theorem enc_cnt {c : ByteArray} {i : Int} (h : moneyOk (.str c :: enc i) = true) : tcnts (.str c :: enc i) <= 1000000 := by
  have := money_len h
  simp only [enc, tcnts]
  omega
end Go.Proofs.YtgbknjdjbahdkaaGreatDoor
namespace Go.Proofs.YtgbknjdjbahdkaaGreatDoor
open Go Go.Proofs.YtgbknjdjbahdkaaGreatDoor.Sx
theorem rround_near {n : Int} {d : Nat} (m : Int) (hd : 0 < d) : (n - rround n d m * d).natAbs < d := by
  have e := Nat.div_add_mod n.natAbs d
  have l := Nat.mod_lt n.natAbs hd
  have hc : d * (n.natAbs / d) = n.natAbs / d * d := Nat.mul_comm _ _
  have key : (n.natAbs % d = 0 -> roundM n d m = n.natAbs / d) /\ (roundM n d m = n.natAbs / d ∨ roundM n d m = n.natAbs / d + 1) := by
    unfold roundM
    refine ⟨fun h => if_neg fun h2 => h2.1 h, ?_⟩
    split
    · exact .inr rfl
    · exact .inl rfl
  have fin : ∃ r : Int, n.natAbs = (roundM n d m * d : Nat) + r /\ r.natAbs < d := by
    by_cases h0 : n.natAbs % d = 0
    · rw [key.1 h0]; exact ⟨0, by omega, by simpa using hd⟩
    · rcases key.2 with h | h <;> rw [h]
      · exact ⟨((n.natAbs % d : Nat) : Int), by omega, by omega⟩
      · rw [Nat.succ_mul]
        exact ⟨((n.natAbs % d : Nat) : Int) - d, by omega, by omega⟩
  obtain ⟨r, h1, h2⟩ := fin
  rw [Int.natCast_mul] at h1
  unfold rround
  split
  · rw [Int.neg_mul]; omega
  · omega
end Go.Proofs.YtgbknjdjbahdkaaGreatDoor
namespace Go.Proofs.YtgbknjdjbahdkaaGreatDoor
open Go Go.Proofs.YtgbknjdjbahdkaaGreatDoor.Sx
def ByR (W : World) (p : Option Addr) (n : Nat) : Prop := 0 < n -> ∃ (b o : Nat) (zs : List Int), p = some ⟨b, o, none⟩ /\ zs.length = n /\ Seg W b o (zs.map (Value.int .u8)) /\ b < W.heap.size
theorem ByR.ext {W W' : World} {p : Option Addr} {n : Nat} (h : ByR W p n) (he : Ext W W') : ByR W' p n := fun hn => by
  obtain ⟨b, o, zs, h1, h2, h3, h4⟩ := h hn
  exact ⟨b, o, zs, h1, h2, h3.ext he, Nat.lt_of_lt_of_le h4 he.le⟩
theorem ByR.chg {W W' : World} {p : Option Addr} {n r : Nat} (h : ByR W p n) (he : Chg [r] W W') (hr : 0 < n -> ∀ q, p.map (·.block) = some q -> q ≠ r) : ByR W' p n := fun hn => by
  obtain ⟨b, o, zs, rfl, h2, h3, h4⟩ := h hn
  exact ⟨b, o, zs, rfl, h2, h3.chg he (fun hm => hr hn b rfl (List.mem_singleton.1 hm)), Nat.lt_of_lt_of_le h4 he.size⟩
theorem ByR.at {W : World} {p : Option Addr} {n : Nat} (h : ByR W p n) {i : Int} (h0 : 0 <= i) (h1 : i < n) : ∃ a z, p = some a /\ Loads P T_uint8 (a.add (i.toNat * 1)) (.int .u8 z) W := by
  obtain ⟨b, o, zs, rfl, h2, h3, h4⟩ := h (by omega)
  have hk : i.toNat < zs.length := by omega
  refine ⟨⟨b, o, none⟩, zs[i.toNat], rfl, h3.load (by kernel_rfl) ?_⟩
  rw [Nat.mul_one, List.getElem?_map, List.getElem?_eq_getElem hk]; rfl
def Cur (W : World) (r : Nat) (p : Option Addr) (n c : Nat) : Prop := ∃ (e : TypeId) (i h : Int), 0 <= i /\ Blk W r e [.slice p n c, .int .i64 i, .int .i64 h]
theorem Cur.ext {W W' : World} {r n c : Nat} {p : Option Addr} (h : Cur W r p n c) (he : Ext W W') : Cur W' r p n c := by
  obtain ⟨e, i, x, h1, h2⟩ := h; exact ⟨e, i, x, h1, h2.ext he⟩
theorem Cur.lt {W : World} {r n c : Nat} {p : Option Addr} (h : Cur W r p n c) : r < W.heap.size := by
  obtain ⟨e, i, x, h1, h2⟩ := h; exact h2.lt
theorem and255 (x : Int) : ∃ z : Int, z = IntKind.wrap .i64 (((BitVec.ofInt (IntKind.bits .i64) x &&& BitVec.ofInt (IntKind.bits .i64) 255).toNat : Nat) : Int) /\ 0 <= z /\ z <= 255 := by
  have h : (BitVec.ofInt (IntKind.bits .i64) x &&& BitVec.ofInt (IntKind.bits .i64) 255).toNat <= 255 := by
    rw [BitVec.toNat_and]
    exact Nat.le_trans Nat.and_le_right (by decide)
  exact ⟨_, rfl, by rw [wrap64 (by omega) (by omega)]; omega, by rw [wrap64 (by omega) (by omega)]; omega⟩
theorem spec_l01New_c {w : World} {p : Option Addr} {n c : Nat} (h : ByR w p n) (hn : n <= 1048576) : Ret P n_spec_l01New [.slice p n c] w fun v w' => ∃ r, v = .pointer (some ⟨r, 0, none⟩) /\ w.heap.size <= r /\ Cur w' r p n c /\ Ext w w' := by
  refine spec_l01New_ret ?_
  unfold spec_l01New
  refine ⟨_, rfl, fun _ i W => ∃ k : Nat, i = k /\ W = w, fun _ i _ => n - i.toNat, ⟨0, rfl, rfl⟩, ?_⟩
  rintro junk W hh i ⟨k, rfl, rfl⟩
  have fin : ∀ (r : Nat) (w1 : World), New W (.cells ⟨[.slice p n c, .int .i64 0, .int .i64 hh]⟩ T_spec_l01Cur (0, 0)) r w1 -> ∃ r', Value.pointer (some ⟨r, 0, none⟩) = .pointer (some ⟨r', 0, none⟩) /\ W.heap.size <= r' /\ Cur w1 r' p n c /\ Ext W w1 := fun r w1 hn1 =>
    ⟨r, rfl, by have := hn1.r_eq; omega, ⟨_, 0, hh, by omega, hn1.blk⟩, hn1.ext⟩
  refine ifD (fun hlt => ifD (fun h4 => ?_) (fun _ => fin)) (fun hge => ifF fin)
  unfold spec_l01New_j0
  obtain ⟨a, z, rfl, hl⟩ := h.at (i := (k : Int)) (by omega) hlt
  refine ⟨_, rfl, ⟨by omega, hlt⟩, _, hl, _, rfl, _, rfl, _, rfl, _, rfl, exW ⟨by omega, by omega⟩ ⟨⟨k + 1, by omega, rfl⟩, ?_⟩⟩
  show n - ((k : Int) + 1).toNat < n - (k : Int).toNat
  omega
theorem spec_l01Byte_c {w : World} {r n c : Nat} {p : Option Addr} (hc : Cur w r p n c) (hb : ByR w p n) (hne : 0 < n -> ∀ q, p.map (·.block) = some q -> q ≠ r) (hn : n <= 1048576) :
    Ret P n_spec_l01Byte [.pointer (some ⟨r, 0, none⟩)] w fun v w' => ∃ z : Int, v = .int .i64 z /\ 0 <= z /\ z <= 255 /\ Cur w' r p n c /\ Chg [r] w w' := by
  obtain ⟨e, i, hh, hi, hblk⟩ := hc
  refine spec_l01Byte_ret ?_
  unfold spec_l01Byte
  refine ⟨_, hblk.load (by kernel_rfl) rfl, _, rfl, _, rfl, ?_⟩
  obtain ⟨w1, st1, hb1, ch1, _⟩ := hblk.store (P := P) (t := T_int) (k := 2) (v := .int .i64 (IntKind.wrap .i64 (IntKind.wrap .i64 (hh * 6364136223846793005) + 1442695040888963407))) (by kernel_rfl) (by simp) rfl
  have D1 := Ext.drew w1
  have D2 := D1.trans (Ext.drew w1.drew)
  have D3 := D2.trans (Ext.drew w1.drew.drew)
  have hb2 := hb1.ext D2; have hb3 := hb1.ext D3
  have hby := (hb.chg ch1 hne).ext D3
  refine ⟨w1, st1, _, fun W hW => ((hb1.ext D1).ext hW).load (by kernel_rfl) rfl, by decide, _, rfl, _, fun W hW => ((hb1.ext D1).ext hW).load (by kernel_rfl) rfl, by decide, _, rfl, _, rfl, ?_⟩
  obtain ⟨z1, hz1, z10, z11⟩ := and255 (IntKind.wrap .i64 (((BitVec.ofInt (IntKind.bits .i64) (Int.fdiv (IntKind.wrap .i64 (IntKind.wrap .i64 (hh * 6364136223846793005) + 1442695040888963407)) (2 ^ (min (33 : Int).toNat (IntKind.bits .i64)))) ^^^ BitVec.ofInt (IntKind.bits .i64) (Int.fdiv (IntKind.wrap .i64 (IntKind.wrap .i64 (hh * 6364136223846793005) + 1442695040888963407)) (2 ^ (min (45 : Int).toNat (IntKind.bits .i64))))).toNat : Nat) : Int))
  refine ⟨z1, hz1, _, fun W hW => (hb2.ext hW).load (by kernel_rfl) rfl, _, _, _, fun W hW => (hb2.ext hW).load (by kernel_rfl) rfl, ifD (fun hlt => ?_) (fun hge => ?_)⟩
  · obtain ⟨a, z, hpa, _⟩ := hby.at hi hlt
    obtain ⟨b, o, zs, hpe, hzl, hseg, hblt⟩ := hby (by omega)
    have hpo : p = some ⟨b, o, none⟩ := hpe
    subst hpo
    have hk : i.toNat < zs.length := by omega
    refine ⟨_, _, _, fun W hW => (hb3.ext hW).load (by kernel_rfl) rfl, _, fun W hW => (hb3.ext hW).load (by kernel_rfl) rfl, ⟨hi, hlt⟩, ?_⟩
    refine ⟨zs[i.toNat], fun W hW => (hseg.ext hW).load (by kernel_rfl) (by rw [Nat.mul_one, List.getElem?_map, List.getElem?_eq_getElem hk]; rfl), _, rfl, _, rfl, ?_⟩
    obtain ⟨z2, hz2, z20, z21⟩ := and255 (IntKind.wrap .i64 (z1 + IntKind.wrap .i64 zs[i.toNat]))
    refine ⟨z2, hz2, _, hb3.load (by kernel_rfl) rfl, exW ⟨by omega, by omega⟩ ?_⟩
    obtain ⟨w2, st2, hb4, ch2, _⟩ := hb3.store (P := P) (t := T_int) (k := 1) (v := .int .i64 (i + 1)) (by kernel_rfl) (by simp) rfl
    refine ⟨w2, st2, ?_⟩
    unfold spec_l01Byte_j0
    exact ⟨z2, rfl, z20, z21, ⟨e, i + 1, IntKind.wrap .i64 (IntKind.wrap .i64 (hh * 6364136223846793005) + 1442695040888963407), by omega, hb4⟩, (ch1.trans D3.toChg).trans ch2⟩
  · unfold spec_l01Byte_j0
    exact ⟨z1, rfl, z10, z11, ⟨e, i, IntKind.wrap .i64 (IntKind.wrap .i64 (hh * 6364136223846793005) + 1442695040888963407), hi, hb2⟩, ch1.trans D2.toChg⟩
theorem spec_l01Below_c {w : World} {r n c : Nat} {p : Option Addr} (hc : Cur w r p n c) (hb : ByR w p n) (hne : 0 < n -> ∀ q, p.map (·.block) = some q -> q ≠ r) (hn : n <= 1048576) {k : Int} (hk : 0 < k) (hk2 : k <= 1000000000) :
    Ret P n_spec_l01Below [.pointer (some ⟨r, 0, none⟩), .int .i64 k] w fun v w' => ∃ z : Int, v = .int .i64 z /\ 0 <= z /\ z < k /\ Cur w' r p n c /\ Chg [r] w w' := by
  refine spec_l01Below_ret ?_
  unfold spec_l01Below
  refine ifD (fun h => by omega) (fun _ => ifD (fun _ => ?_) (fun _ => ?_))
  · refine Ret.at (spec_l01Byte_c hc hb hne hn) ?_
    rintro v w1 ⟨z, rfl, z0, z1, hc1, ch1⟩
    refine ⟨_, rfl, by omega, _, rfl, _, rfl, ?_, ?_, hc1, ch1⟩
    · exact Int.tmod_nonneg _ z0
    · rw [Int.tmod_eq_emod_of_nonneg z0]; exact Int.emod_lt_of_pos _ hk
  · refine Ret.at (spec_l01Byte_c hc hb hne hn) ?_
    rintro v w1 ⟨x1, rfl, a0, a1, hc1, ch1⟩
    refine ⟨_, rfl, ?_⟩
    have hb1 := hb.chg ch1 hne
    refine Ret.at (spec_l01Byte_c hc1 hb1 hne hn) ?_
    rintro v w2 ⟨x2, rfl, b0, b1, hc2, ch2⟩
    refine ⟨_, rfl, ?_⟩
    have hb2 := hb1.chg ch2 hne
    refine Ret.at (spec_l01Byte_c hc2 hb2 hne hn) ?_
    rintro v w3 ⟨x3, rfl, c0, c1, hc3, ch3⟩
    refine ⟨_, rfl, ?_⟩
    have hb3 := hb2.chg ch3 hne
    refine Ret.at (spec_l01Byte_c hc3 hb3 hne hn) ?_
    rintro v w4 ⟨x4, rfl, d0, d1, hc4, ch4⟩
    refine ⟨_, rfl, exW ⟨by omega, by omega⟩ (exW ⟨by omega, by omega⟩ (exW ⟨by omega, by omega⟩ (exW ⟨by omega, by omega⟩ (exW ⟨by omega, by omega⟩ (exW ⟨by omega, by omega⟩ ⟨by omega, _, rfl, _, rfl, ?_, ?_, hc4, ((ch1.trans ch2).trans ch3).trans ch4⟩)))))⟩
    · exact Int.tmod_nonneg _ (by omega)
    · rw [Int.tmod_eq_emod_of_nonneg (by omega)]; exact Int.emod_lt_of_pos _ hk
theorem spec_l01Pick_c {w : World} {r n c : Nat} {p : Option Addr} (hc : Cur w r p n c) (hb : ByR w p n) (hne : 0 < n -> ∀ q, p.map (·.block) = some q -> q ≠ r) (hn : n <= 1048576) {lp : Option Addr} {ln lc : Nat} {zs : List Int} (hl : IntsR w lp ln lc zs) (hlr : ∀ q, lp.map (·.block) = some q -> q ≠ r) (h0 : 0 < ln) (h1 : ln <= 1000) :
    Ret P n_spec_l01Pick [.pointer (some ⟨r, 0, none⟩), .slice lp ln lc] w fun v w' => ∃ z : Int, v = .int .i64 z /\ z ∈ zs /\ Cur w' r p n c /\ Chg [r] w w' := by
  refine spec_l01Pick_ret ?_
  unfold spec_l01Pick
  refine Ret.at (spec_l01Below_c hc hb hne hn (k := ((ln : Nat) : Int)) (by omega) (by omega)) ?_
  rintro v w1 ⟨z, rfl, z0, z1, hc1, ch1⟩
  have hl1 := hl.chg ch1 (fun q hq hm => hlr q hq (List.mem_singleton.1 hm))
  obtain ⟨a, rfl, hld⟩ := ints_at hl1 z0 z1
  refine ⟨_, rfl, ⟨z0, z1⟩, _, hld, _, rfl, ?_, hc1, ch1⟩
  have hk : z.toNat < zs.length := by have := hl.1; omega
  rw [List.getD_eq_getElem?_getD, List.getElem?_eq_getElem hk]
  exact List.getElem_mem hk
end Go.Proofs.YtgbknjdjbahdkaaGreatDoor
namespace Go.Proofs.YtgbknjdjbahdkaaGreatDoor
open Go Go.Proofs.YtgbknjdjbahdkaaGreatDoor.Sx
theorem ByR.ne {W : World} {p : Option Addr} {n r : Nat} (h : ByR W p n) (hr : W.heap.size <= r) : 0 < n -> ∀ q, p.map (·.block) = some q -> q ≠ r := fun hn q hq => by
  obtain ⟨b, o, zs, rfl, _, _, h4⟩ := h hn
  simp only [Option.map_some, Option.some.injEq] at hq
  omega
theorem curBump {W : World} {r n c : Nat} {p : Option Addr} {k : Int} (hc : Cur W r p n c) {Q : World -> Prop} (hq : ∀ W', Cur W' r p n c -> Chg [r] W W' -> Q W') :
    ∃ t : Int, Loads P T_int ((⟨r, 0, none⟩ : Addr).add 2) (.int .i64 t) W /\ ∃ t2 : Int, t2 = IntKind.wrap .i64 (t + k) /\ ∃ W', Stores P T_int ((⟨r, 0, none⟩ : Addr).add 2) (.int .i64 t2) W W' /\ Q W' := by
  obtain ⟨e, i, x, h1, h2⟩ := hc
  obtain ⟨W', st, hb, ch, _⟩ := h2.store (P := P) (t := T_int) (k := 2) (v := .int .i64 (IntKind.wrap .i64 (x + k))) (by kernel_rfl) (by simp) rfl
  exact ⟨x, h2.load (by kernel_rfl) rfl, _, rfl, W', st, hq W' ⟨e, i, _, h1, hb⟩ ch⟩
theorem spec_MakeNum_c {w : World} {p : Option Addr} {n c : Nat} (h : ByR w p n) (hn : n <= 1048576) {k : Int} (hk : 0 < k) (hk2 : k <= 1000000000) : Ret P n_spec_MakeNum [.slice p n c, .int .i64 k] w fun v w' => ∃ z : Int, v = .int .i64 z /\ 0 <= z /\ z < k /\ Ext w w' := by
  refine spec_MakeNum_ret ?_
  unfold spec_MakeNum
  refine Ret.at (spec_l01New_c h hn) ?_
  rintro v w1 ⟨r, rfl, hr, hc, y1⟩
  refine ⟨_, rfl, curBump hc fun w2 hc2 ch2 => ?_⟩
  refine Ret.at (spec_l01Below_c hc2 ((h.ext y1).chg ch2 (h.ne hr)) (h.ne hr) hn hk hk2) ?_
  rintro v w3 ⟨z, rfl, z0, z1, _, ch3⟩
  exact ⟨_, rfl, z, rfl, z0, z1, (y1.chg ch2 (fun q hq => by have := List.mem_singleton.1 hq; omega)).chg ch3 (fun q hq => by have := List.mem_singleton.1 hq; omega)⟩
def rateNums : List Int := [0, 1, 25, 77, 81, 190, 200, 1000]
def rateScales : List Int := [3, 3, 4]
theorem spec_l13Rate_c {w : World} {r n c : Nat} {p : Option Addr} (hc : Cur w r p n c) (hb : ByR w p n) (hne : 0 < n -> ∀ q, p.map (·.block) = some q -> q ≠ r) (hn : n <= 1048576) :
    Ret P n_spec_l13Rate [.pointer (some ⟨r, 0, none⟩)] w fun v w' => ∃ (z s : Int) (vs : List Value) (f : List Nat), v = .agg ⟨vs⟩ /\ z ∈ rateNums /\ s ∈ rateScales /\ Owns w' w.heap.size vs (enc z ++ [.int s]) f /\ f.Nodup /\ Cur w' r p n c /\ Chg [r] w w' := by
  have hrl := hc.lt
  refine spec_l13Rate_ret ?_
  unfold spec_l13Rate
  intro r0 w1 hn1 r1 w2 hn2
  have e1 := hn1.r_eq; have e2 := hn2.r_eq; have z1 := hn1.size; have z2 := hn2.size
  have X2 := hn1.ext.trans hn2.ext
  have l8 : IntsR w2 (some ⟨r1, 0, none⟩) 8 8 rateNums := by
    have := Own.of_blk (base := 0) (size := 1) (n := 8) hn2.blk (Nat.zero_le _) rfl (by decide)
    exact Own.ints (zs := rateNums) this
  refine Ret.at (spec_l01Pick_c (hc.ext X2) (hb.ext X2) hne hn l8 (fun q hq => by simp only [Option.map_some, Option.some.injEq] at hq; omega) (by decide) (by decide)) ?_
  rintro v w3 ⟨z, rfl, hz, hc3, ch3⟩
  refine ⟨_, rfl, ?_⟩
  have hzb : 0 <= z /\ z <= 1000 := by simp only [rateNums, List.mem_cons, List.not_mem_nil, or_false] at hz; omega
  refine Ret.at (spec_IntOf_c (n := z) (by omega) (by omega)) ?_
  rintro v w4 ⟨vs4, f4, hv, ho4, nd4, y4⟩
  subst hv
  obtain ⟨a0, ap, an, ac, az, rfl, _, _⟩ := open_Signed ho4.reps (enc_code _)
  refine ⟨_, _, _, _, rfl, ?_⟩
  intro r2 w5 hn5
  have e5 := hn5.r_eq; have z5 := hn5.size; have l3 := ch3.size; have l4 := y4.le
  have Y5 := y4.trans hn5.ext
  have l3s : IntsR w5 (some ⟨r2, 0, none⟩) 3 3 rateScales := by
    have := Own.of_blk (base := 0) (size := 1) (n := 3) hn5.blk (Nat.zero_le _) rfl (by decide)
    exact Own.ints (zs := rateScales) this
  have hb5 := ((hb.ext X2).chg ch3 hne).ext Y5
  refine Ret.at (spec_l01Pick_c (hc3.ext Y5) hb5 hne hn l3s (fun q hq => by simp only [Option.map_some, Option.some.injEq] at hq; omega) (by decide) (by decide)) ?_
  rintro v w6 ⟨s, rfl, hs, hc6, ch6⟩
  have hb0 : Blk w6 r0 _ _ := (((hn1.blk.ext hn2.ext).chg ch3 (fun hm => by have := List.mem_singleton.1 hm; omega)).ext Y5).chg ch6 (fun hm => by have := List.mem_singleton.1 hm; omega)
  have lt4 := ho4.lt
  have ho6 : Owns w6 w3.heap.size [.bool a0, .slice ap an ac, .int .i64 s] (enc z ++ [.int s]) f4 := by
    have h1 := (ho4.ext hn5.ext).chg ch6 (fun q hq hm => by have := (lt4 q hq).1; have := List.mem_singleton.1 hm; omega)
    have := Owns.append h1 (Owns.int w6 w3.heap.size s)
    simpa using this
  obtain ⟨w7, st7, hb7, ch7, _⟩ := hb0.storeA0 (P := P) (t := T_impl_Dec) (xs := [.bool a0, .slice ap an ac, .int .i64 s]) (by kernel_rfl) rfl ho6.reps.cells1
  have C6 : Chg [r] w w6 := ((X2.toChg.trans ch3).trans Y5.toChg).trans ch6
  refine ⟨_, rfl, w7, st7, _, _, _, _, _, hb7.loadA0 (by kernel_rfl), z, s, _, f4, rfl, hz, hs, ((ho6.chg ch7 (fun q hq hm => by have := (lt4 q hq).1; have := List.mem_singleton.1 hm; omega)).mono (by omega)), nd4, ?_, ?_⟩
  · obtain ⟨e, i, x, g1, g2⟩ := hc6
    exact ⟨e, i, x, g1, g2.chg ch7 (fun hm => by have := List.mem_singleton.1 hm; omega)⟩
  · refine ⟨ch7.os.trans C6.os, ch7.tape.trans C6.tape, ch7.output.trans C6.output, Nat.le_trans C6.size ch7.size, fun k hk hm => ?_⟩
    rw [ch7.block k (Nat.lt_of_lt_of_le hk C6.size) (fun h7 => by have := List.mem_singleton.1 h7; omega)]
    exact C6.block k hk hm
end Go.Proofs.YtgbknjdjbahdkaaGreatDoor
namespace Go.Proofs.YtgbknjdjbahdkaaGreatDoor
open Go Go.Proofs.YtgbknjdjbahdkaaGreatDoor.Sx
theorem rate_form {z s : Int} (hz : z ∈ rateNums) (hs : s ∈ rateScales) : ∃ m t : Nat, enc z ++ [.int s] = [.bool false, .ints (digs m), .int (t : Int)] /\ taxOk [.bool false, .ints (digs m), .int (t : Int)] = true := by
  have h1 : ∀ z ∈ rateNums, ∀ s ∈ rateScales, taxOk (enc z ++ [.int s]) = true := by decide +kernel
  have h2 : ∀ z ∈ rateNums, 0 <= z := by decide
  have h3 : ∀ s ∈ rateScales, 0 <= s := by decide
  have hz0 := h2 z hz; have hs0 := h3 s hs
  refine ⟨z.toNat, s.toNat, ?_, ?_⟩
  · have e := enc_nat z.toNat
    rw [show ((z.toNat : Nat) : Int) = z by omega] at e
    rw [e, show ((s.toNat : Nat) : Int) = s by omega]; rfl
  · have e := enc_nat z.toNat
    rw [show ((z.toNat : Nat) : Int) = z by omega] at e
    have h4 := h1 z hz s hs
    rw [e] at h4
    rw [show ((s.toNat : Nat) : Int) = s by omega]
    exact h4
end Go.Proofs.YtgbknjdjbahdkaaGreatDoor
namespace Go.Proofs.YtgbknjdjbahdkaaGreatDoor
open Go Go.Shelf
def ren105 : Ren := ⟨fun x => match x with | 105 => 159 | 212 => 181 | 99 => 182 | 165 => 132 | 166 => 133 | 170 => 183 | 169 => 134 | 263 => 196 | 264 => 197 | 206 => 198 | 240 => 160 | 241 => 161 | 276 => 184 | 277 => 185 | n => n, fun x => match x with | 9 => 9 | 3 => 3 | 4 => 4 | 20 => 20 | 0 => 0 | 46 => 137 | 109 => 180 | 5 => 5 | 72 => 142 | 76 => 110 | 51 => 199 | 146 => 202 | 53 => 86 | 148 => 204 | 70 => 140 | 37 => 28 | 75 => 109 | 127 => 163 | 164 => 184 | 80 => 144 | n => n, fun x => x⟩
theorem lays105 : Lays.n105 Tryz.prog ren105 := {
  mixed := by kernel_rfl,
  f99 := Tryz.func182.trans (congrArg some (by kernel_rfl)),
  f105 := Tryz.func159.trans (congrArg some (by kernel_rfl)),
  f165 := Tryz.func132.trans (congrArg some (by kernel_rfl)),
  f166 := Tryz.func133.trans (congrArg some (by kernel_rfl)),
  f169 := Tryz.func134.trans (congrArg some (by kernel_rfl)),
  f170 := Tryz.func183.trans (congrArg some (by kernel_rfl)),
  f206 := Tryz.func198.trans (congrArg some (by kernel_rfl)),
  f212 := Tryz.func181.trans (congrArg some (by kernel_rfl)),
  f240 := Tryz.func160.trans (congrArg some (by kernel_rfl)),
  f241 := Tryz.func161.trans (congrArg some (by kernel_rfl)),
  f263 := Tryz.func196.trans (congrArg some (by kernel_rfl)),
  f264 := Tryz.func197.trans (congrArg some (by kernel_rfl)),
  f276 := Tryz.func184.trans (congrArg some (by kernel_rfl)),
  f277 := Tryz.func185.trans (congrArg some (by kernel_rfl)),
  t0 := Tryz.underlying0,
  a0 := Tryz.isAgg0,
  z0 := Tryz.sizeOf0,
  v0 := Tryz.zeroValue0,
  t3 := Tryz.underlying3,
  a3 := Tryz.isAgg3,
  z3 := Tryz.sizeOf3,
  v3 := Tryz.zeroValue3,
  t4 := Tryz.underlying4,
  a4 := Tryz.isAgg4,
  z4 := Tryz.sizeOf4,
  v4 := Tryz.zeroValue4,
  t5 := Tryz.underlying5,
  a5 := Tryz.isAgg5,
  z5 := Tryz.sizeOf5,
  v5 := Tryz.zeroValue5,
  t9 := Tryz.underlying9,
  a9 := Tryz.isAgg9,
  z9 := Tryz.sizeOf9,
  v9 := Tryz.zeroValue9,
  t20 := Tryz.underlying20,
  a20 := Tryz.isAgg20,
  z20 := Tryz.sizeOf20,
  v20 := Tryz.zeroValue20,
  t37 := Tryz.underlying28,
  a37 := Tryz.isAgg28,
  z37 := Tryz.sizeOf28,
  v37 := Tryz.zeroValue28,
  t46 := Tryz.underlying137,
  a46 := Tryz.isAgg137,
  z46 := Tryz.sizeOf137,
  v46 := Tryz.zeroValue137,
  t51 := Tryz.underlying199,
  a51 := Tryz.isAgg199,
  z51 := Tryz.sizeOf199,
  v51 := Tryz.zeroValue199,
  t53 := Tryz.underlying86,
  a53 := Tryz.isAgg86,
  z53 := Tryz.sizeOf86,
  v53 := Tryz.zeroValue86,
  t70 := Tryz.underlying140,
  a70 := Tryz.isAgg140,
  z70 := Tryz.sizeOf140,
  v70 := Tryz.zeroValue140,
  t72 := Tryz.underlying142,
  a72 := Tryz.isAgg142,
  z72 := Tryz.sizeOf142,
  v72 := Tryz.zeroValue142,
  t75 := Tryz.underlying109,
  a75 := Tryz.isAgg109,
  z75 := Tryz.sizeOf109,
  v75 := Tryz.zeroValue109,
  t76 := Tryz.underlying110,
  a76 := Tryz.isAgg110,
  z76 := Tryz.sizeOf110,
  v76 := Tryz.zeroValue110,
  t109 := Tryz.underlying180,
  a109 := Tryz.isAgg180,
  z109 := Tryz.sizeOf180,
  v109 := Tryz.zeroValue180,
  t127 := Tryz.underlying163,
  a127 := Tryz.isAgg163,
  z127 := Tryz.sizeOf163,
  v127 := Tryz.zeroValue163,
  t146 := Tryz.underlying202,
  a146 := Tryz.isAgg202,
  z146 := Tryz.sizeOf202,
  v146 := Tryz.zeroValue202,
  t148 := Tryz.underlying204,
  a148 := Tryz.isAgg204,
  z148 := Tryz.sizeOf204,
  v148 := Tryz.zeroValue204,
  t164 := Tryz.underlying184,
  a164 := Tryz.isAgg184,
  z164 := Tryz.sizeOf184,
  v164 := Tryz.zeroValue184 }
def ren156 : Ren := ⟨fun x => match x with | 156 => 100 | 165 => 132 | 166 => 133 | 169 => 134 | 240 => 160 | 241 => 161 | 276 => 184 | 277 => 185 | n => n, fun x => match x with | 31 => 62 | 9 => 9 | 3 => 3 | 4 => 4 | 0 => 0 | 20 => 20 | 72 => 142 | 76 => 110 | 70 => 140 | 37 => 28 | 75 => 109 | 127 => 163 | 164 => 184 | 5 => 5 | 80 => 144 | n => n, fun x => x⟩
theorem lays156 : Lays.n156 Tryz.prog ren156 := {
  mixed := by kernel_rfl,
  f156 := Tryz.func100.trans (congrArg some (by kernel_rfl)),
  f165 := Tryz.func132.trans (congrArg some (by kernel_rfl)),
  f166 := Tryz.func133.trans (congrArg some (by kernel_rfl)),
  f169 := Tryz.func134.trans (congrArg some (by kernel_rfl)),
  f240 := Tryz.func160.trans (congrArg some (by kernel_rfl)),
  f241 := Tryz.func161.trans (congrArg some (by kernel_rfl)),
  f276 := Tryz.func184.trans (congrArg some (by kernel_rfl)),
  f277 := Tryz.func185.trans (congrArg some (by kernel_rfl)),
  t0 := Tryz.underlying0,
  a0 := Tryz.isAgg0,
  z0 := Tryz.sizeOf0,
  v0 := Tryz.zeroValue0,
  t3 := Tryz.underlying3,
  a3 := Tryz.isAgg3,
  z3 := Tryz.sizeOf3,
  v3 := Tryz.zeroValue3,
  t4 := Tryz.underlying4,
  a4 := Tryz.isAgg4,
  z4 := Tryz.sizeOf4,
  v4 := Tryz.zeroValue4,
  t9 := Tryz.underlying9,
  a9 := Tryz.isAgg9,
  z9 := Tryz.sizeOf9,
  v9 := Tryz.zeroValue9,
  t20 := Tryz.underlying20,
  a20 := Tryz.isAgg20,
  z20 := Tryz.sizeOf20,
  v20 := Tryz.zeroValue20,
  t31 := Tryz.underlying62,
  a31 := Tryz.isAgg62,
  z31 := Tryz.sizeOf62,
  v31 := Tryz.zeroValue62,
  t37 := Tryz.underlying28,
  a37 := Tryz.isAgg28,
  z37 := Tryz.sizeOf28,
  v37 := Tryz.zeroValue28,
  t70 := Tryz.underlying140,
  a70 := Tryz.isAgg140,
  z70 := Tryz.sizeOf140,
  v70 := Tryz.zeroValue140,
  t72 := Tryz.underlying142,
  a72 := Tryz.isAgg142,
  z72 := Tryz.sizeOf142,
  v72 := Tryz.zeroValue142,
  t75 := Tryz.underlying109,
  a75 := Tryz.isAgg109,
  z75 := Tryz.sizeOf109,
  v75 := Tryz.zeroValue109,
  t76 := Tryz.underlying110,
  a76 := Tryz.isAgg110,
  z76 := Tryz.sizeOf110,
  v76 := Tryz.zeroValue110,
  t127 := Tryz.underlying163,
  a127 := Tryz.isAgg163,
  z127 := Tryz.sizeOf163,
  v127 := Tryz.zeroValue163,
  t164 := Tryz.underlying184,
  a164 := Tryz.isAgg184,
  z164 := Tryz.sizeOf184,
  v164 := Tryz.zeroValue184 }
def ren171 : Ren := ⟨fun x => match x with | 171 => 84 | 243 => 122 | 246 => 155 | 283 => 175 | 284 => 176 | 285 => 177 | 286 => 178 | 129 => 192 | 317 => 191 | 318 => 193 | 319 => 194 | 320 => 195 | 337 => 209 | 338 => 210 | n => n, fun x => match x with | 3 => 3 | 9 => 9 | 2 => 2 | 4 => 4 | 171 => 174 | 0 => 0 | 53 => 86 | 37 => 28 | 5 => 5 | 173 => 177 | 212 => 198 | 51 => 199 | 20 => 20 | 213 => 200 | 46 => 137 | 232 => 207 | 233 => 208 | n => n, fun x => match x with | 17 => 4 | 18 => 5 | 19 => 6 | n => n⟩
theorem lays171 : LaysM.n171 Tryz.prog ren171 := {
  mixed := by kernel_rfl,
  f129 := Tryz.func192.trans (congrArg some (by kernel_rfl)),
  f171 := Tryz.func84.trans (congrArg some (by kernel_rfl)),
  f243 := Tryz.func122.trans (congrArg some (by kernel_rfl)),
  f246 := Tryz.func155.trans (congrArg some (by kernel_rfl)),
  f283 := Tryz.func175.trans (congrArg some (by kernel_rfl)),
  f284 := Tryz.func176.trans (congrArg some (by kernel_rfl)),
  f285 := Tryz.func177.trans (congrArg some (by kernel_rfl)),
  f286 := Tryz.func178.trans (congrArg some (by kernel_rfl)),
  f317 := Tryz.func191.trans (congrArg some (by kernel_rfl)),
  f318 := Tryz.func193.trans (congrArg some (by kernel_rfl)),
  f319 := Tryz.func194.trans (congrArg some (by kernel_rfl)),
  f320 := Tryz.func195.trans (congrArg some (by kernel_rfl)),
  f337 := Tryz.func209.trans (congrArg some (by kernel_rfl)),
  f338 := Tryz.func210.trans (congrArg some (by kernel_rfl)),
  t0 := Tryz.underlying0,
  a0 := Tryz.isAgg0,
  z0 := Tryz.sizeOf0,
  v0 := Tryz.zeroValue0,
  t2 := Tryz.underlying2,
  a2 := Tryz.isAgg2,
  z2 := Tryz.sizeOf2,
  v2 := Tryz.zeroValue2,
  t3 := Tryz.underlying3,
  a3 := Tryz.isAgg3,
  z3 := Tryz.sizeOf3,
  v3 := Tryz.zeroValue3,
  t4 := Tryz.underlying4,
  a4 := Tryz.isAgg4,
  z4 := Tryz.sizeOf4,
  v4 := Tryz.zeroValue4,
  t5 := Tryz.underlying5,
  a5 := Tryz.isAgg5,
  z5 := Tryz.sizeOf5,
  v5 := Tryz.zeroValue5,
  t9 := Tryz.underlying9,
  a9 := Tryz.isAgg9,
  z9 := Tryz.sizeOf9,
  v9 := Tryz.zeroValue9,
  t20 := Tryz.underlying20,
  a20 := Tryz.isAgg20,
  z20 := Tryz.sizeOf20,
  v20 := Tryz.zeroValue20,
  t37 := Tryz.underlying28,
  a37 := Tryz.isAgg28,
  z37 := Tryz.sizeOf28,
  v37 := Tryz.zeroValue28,
  t46 := Tryz.underlying137,
  a46 := Tryz.isAgg137,
  z46 := Tryz.sizeOf137,
  v46 := Tryz.zeroValue137,
  t51 := Tryz.underlying199,
  a51 := Tryz.isAgg199,
  z51 := Tryz.sizeOf199,
  v51 := Tryz.zeroValue199,
  t53 := Tryz.underlying86,
  a53 := Tryz.isAgg86,
  z53 := Tryz.sizeOf86,
  v53 := Tryz.zeroValue86,
  t171 := Tryz.underlying174,
  a171 := Tryz.isAgg174,
  z171 := Tryz.sizeOf174,
  v171 := Tryz.zeroValue174,
  t173 := Tryz.underlying177,
  a173 := Tryz.isAgg177,
  z173 := Tryz.sizeOf177,
  v173 := Tryz.zeroValue177,
  t212 := Tryz.underlying198,
  a212 := Tryz.isAgg198,
  z212 := Tryz.sizeOf198,
  v212 := Tryz.zeroValue198,
  t213 := Tryz.underlying200,
  a213 := Tryz.isAgg200,
  z213 := Tryz.sizeOf200,
  t232 := Tryz.underlying207,
  a232 := Tryz.isAgg207,
  z232 := Tryz.sizeOf207,
  v232 := Tryz.zeroValue207,
  t233 := Tryz.underlying208,
  a233 := Tryz.isAgg208,
  z233 := Tryz.sizeOf208,
  v233 := Tryz.zeroValue208,
  g17 := by kernel_rfl,
  g18 := by kernel_rfl,
  g19 := by kernel_rfl,
  i0 := by kernel_rfl,
  i2 := by kernel_rfl,
  i3 := by kernel_rfl,
  i4 := by kernel_rfl,
  i5 := by kernel_rfl,
  i9 := by kernel_rfl,
  i20 := by kernel_rfl,
  i37 := by kernel_rfl,
  i46 := by kernel_rfl,
  i51 := by kernel_rfl,
  i53 := by kernel_rfl,
  i171 := by kernel_rfl,
  i173 := by kernel_rfl,
  i212 := by kernel_rfl,
  i232 := by kernel_rfl,
  i233 := by kernel_rfl,
  m17 := by kernel_rfl,
  m18 := by kernel_rfl,
  m19 := by kernel_rfl }
end Go.Proofs.YtgbknjdjbahdkaaGreatDoor
namespace Go.Proofs.YtgbknjdjbahdkaaGreatDoor
open Go Go.Proofs.YtgbknjdjbahdkaaGreatDoor.Sx
def TabP (w : World) : Prop := Lib.TabIs P w "internal/strconv.uint64pow10" .u64 Lib.pow10Tab
theorem TabP.ext {w w' : World} (h : TabP w) (he : Ext w w') : TabP w' := Joins.tab_stays lays171.m17 h he (Nat.le_refl _)
theorem X105 : Go.Proofs.Builder.Extra P ren105 where
  sizeBuilder := by kernel_rfl
  liesBuilder := by kernel_rfl
  t5 := lays105.t5
  a5 := lays105.a5
  z5 := lays105.z5
  v5 := lays105.v5
  infoByte := by kernel_rfl
  cellsByte := by kernel_rfl
  sizeByte := by kernel_rfl
  neB5 := by decide
theorem ba_ext {a b : ByteArray} (h : a.data.toList = b.data.toList) : a = b := by
  obtain ⟨⟨x⟩⟩ := a; obtain ⟨⟨y⟩⟩ := b
  simp at h; subst h; rfl
theorem ba_size (a : ByteArray) : a.size = a.data.toList.length := rfl
theorem ba_empty_append (a : ByteArray) : ByteArray.empty ++ a = a := ba_ext (by simp)
theorem ba_append_empty (a : ByteArray) : a ++ ByteArray.empty = a := ba_ext (by simp)
def itxt (u : Nat) : ByteArray := ⟨(Lib.decDigits u).toArray⟩
theorem decDigits_small {u : Nat} (h : u < 10) : Lib.decDigits u = [UInt8.ofNat (48 + u)] := by rw [Lib.decDigits, dif_pos h]
theorem decDigits_big {u : Nat} (h : ¬ u < 10) : Lib.decDigits u = Lib.decDigits (u / 10) ++ [UInt8.ofNat (48 + u % 10)] := by rw [Lib.decDigits, dif_neg h]
theorem itxt_small {u : Nat} (h : u < 10) : itxt u = strOfNums [((48 + u : Nat) : Int)] := ba_ext (by rw [strOfNums_data, itxt, decDigits_small h]; rfl)
theorem itxt_big {u : Nat} (h : ¬ u < 10) : itxt u = itxt (u / 10) ++ strOfNums [((48 + u % 10 : Nat) : Int)] := ba_ext (by
  have e : (itxt u).data.toList = Lib.decDigits u := by simp [itxt]
  have e1 : (itxt (u / 10)).data.toList = Lib.decDigits (u / 10) := by simp [itxt]
  rw [e, decDigits_big h, ByteArray.data_append, Array.toList_append, e1, strOfNums_data]; rfl)
theorem itxt_lt : ∀ (k : Nat) {u : Nat}, u < 10 ^ (k + 1) -> (itxt u).size <= k + 1
  | 0, u, h => by rw [itxt_small (by simpa using h), strOfNums_size]; simp
  | k + 1, u, h => by
    by_cases h1 : u < 10
    · rw [itxt_small h1, strOfNums_size]; simp
    · have h2 : u / 10 < 10 ^ (k + 1) := by rw [Nat.pow_succ] at h; omega
      have := itxt_lt k h2
      rw [itxt_big h1, ByteArray.size_append, strOfNums_size]
      simp; omega
theorem itxt_limb {u : Nat} (h : u < 1000000000) : (itxt u).size <= 9 := itxt_lt 8 (by simpa using h)
theorem impl_IntText_c {w : World} {n : Int} (ht : TabP w) (h0 : 0 <= n) (h1 : n <= 9223372036854775807) : Ret P n_impl_IntText [.int .i64 n] w fun v w' => v = .string (itxt n.toNat) /\ Ext w w' := by
  refine impl_IntText_ret ?_
  unfold impl_IntText
  obtain ⟨u, rfl⟩ : ∃ u : Nat, n = u := ⟨n.toNat, by omega⟩
  refine (Any.strconv_Itoa lays171 (u : Int) (by omega) h1 w ht).mono ?_
  rintro e w' ⟨rfl, k, os, rfl⟩
  rw [Lib.itoa_nonneg]
  exact ⟨_, rfl, rfl, Lib.below_grow _ _ (Nat.le_refl _) _ _⟩
def zeros (k : Nat) : ByteArray := ⟨(List.replicate k (48 : UInt8)).toArray⟩
def padT (s : ByteArray) (n : Int) : ByteArray := if n <= (s.size : Nat) ∨ 2000 < n then s else zeros (n - (s.size : Nat)).toNat ++ s
theorem zeros_size (k : Nat) : (zeros k).size = k := by simp [zeros, ByteArray.size]
theorem padT_le {s : ByteArray} {n : Int} {k : Nat} (h1 : s.size <= k) (h2 : n <= k) : (padT s n).size <= k := by
  unfold padT
  split
  · exact h1
  · rw [ByteArray.size_append, zeros_size]; omega
theorem padT_ge {s : ByteArray} {n : Int} (h : n <= 2000) : n <= ((padT s n).size : Nat) := by
  unfold padT
  split
  · omega
  · rw [ByteArray.size_append, zeros_size]; omega
theorem repeat_zeros (c : Nat) : (⟨(Lib.repeatL (S [48]).data.toList c).toArray⟩ : ByteArray) = zeros c := by
  have : ∀ c, Lib.repeatL (S [48]).data.toList c = List.replicate c (48 : UInt8) := fun c => by
    induction c with
    | zero => rfl
    | succ c ih => rw [Lib.repeatL, ih]; rfl
  rw [this]; rfl
theorem impl_Pad_c {w : World} (s : ByteArray) (n : Int) (hs : s.size <= 4611686018427387904) (hn : -4611686018427387904 <= n) : Ret P n_impl_Pad [.string s, .int .i64 n] w fun v w' => v = .string (padT s n) /\ Ext w w' := by
  refine impl_Pad_ret ?_
  unfold impl_Pad
  refine ifD (fun h => ifT ⟨by rw [padT, if_pos (.inl h)], Ext.refl _⟩) (fun h => ifD (fun h2 => ⟨by rw [padT, if_pos (.inr h2)], Ext.refl _⟩) (fun h2 => ?_))
  refine exW ⟨by omega, by omega⟩ ?_
  obtain ⟨c, hc⟩ : ∃ c : Nat, n - (s.size : Nat) = c := ⟨(n - (s.size : Nat)).toNat, by omega⟩
  rw [hc]
  refine (Any.strings_Repeat lays105 X105 (S [48]) c w (by omega) (by show 1 * c <= 140737488355328; omega)).mono ?_
  rintro e w' ⟨rfl, hx⟩
  rw [repeat_zeros]
  refine ⟨_, rfl, ?_, _, rfl, ?_, hx⟩
  · rw [zeros_size]; omega
  · rw [padT, if_neg (by omega), hc]; rfl
def natR : List Int -> ByteArray
  | [] => ByteArray.empty
  | x :: r => padT (itxt x.toNat) 9 ++ natR r
def natT (l : List Int) : ByteArray := match l.reverse with
  | [] => S [48]
  | x :: r => itxt x.toNat ++ natR r
theorem limb_text {x : Int} (h : 0 <= x /\ x < 1000000000) : (itxt x.toNat).size <= 9 /\ (padT (itxt x.toNat) 9).size <= 9 :=
  have h1 := itxt_limb (u := x.toNat) (by omega)
  ⟨h1, padT_le h1 (by decide)⟩
theorem natR_size : ∀ {l : List Int}, Limbs l -> (natR l).size <= l.length * 9
  | [], _ => by simp [natR]
  | x :: r, h => by
    have h := Limbs.cons.1 h
    have h1 := natR_size h.2; have h2 := (limb_text h.1).2
    rw [natR, ByteArray.size_append, List.length_cons]
    omega
theorem natT_size {l : List Int} (h : Limbs l) : (natT l).size <= l.length * 9 + 1 := by
  unfold natT
  cases e : l.reverse with
  | nil => show 1 <= _; omega
  | cons x r =>
    have hl : l.length = r.length + 1 := by rw [<- List.length_reverse, e]; rfl
    have hh : Limbs (x :: r) := fun y hy => h y (by rw [<- List.mem_reverse, e]; exact hy)
    have hh := Limbs.cons.1 hh
    have h1 := natR_size hh.2; have h2 := (limb_text hh.1).1
    show (itxt x.toNat ++ natR r).size <= _
    rw [ByteArray.size_append, hl]; omega
theorem rev_take_succ {l : List Int} {t : Nat} (h : t < l.length) : (l.take (t + 1)).reverse = l.getD t 0 :: (l.take t).reverse := by
  rw [List.take_add_one, List.getElem?_eq_getElem h, List.getD_eq_getElem?_getD, List.getElem?_eq_getElem h]
  simp
theorem natT_top {l : List Int} {n : Nat} (h : l.length = n + 1) : natT l = itxt (l.getD n 0).toNat ++ natR (l.take n).reverse := by
  have := rev_take_succ (l := l) (t := n) (by omega)
  rw [List.take_of_length_le (by omega)] at this
  unfold natT
  rw [this]
theorem impl_natText_c {w : World} {p : Option Addr} {n c : Nat} {z : List Int} (h : IntsR w p n c z) (hlz : Limbs z) (hn : n <= 1000) (ht : TabP w) :
    Ret P n_impl_natText [.slice p n c] w fun v w' => v = .string (natT z) /\ Ext w w' := by
  refine impl_natText_ret ?_
  unfold impl_natText
  have hlen := h.1
  have XS := Ext.refl w
  refine ifD (fun h0 => ⟨?_, XS⟩) (fun h0 => ?_)
  · rw [List.eq_nil_of_length_eq_zero (show z.length = 0 by omega)]; rfl
  · skip
    obtain ⟨m, rfl⟩ : ∃ m, n = m + 1 := ⟨n - 1, by omega⟩
    have e1 : ((m + 1 : Nat) : Int) - 1 = (m : Int) := by omega
    have e2 : ((m + 1 : Nat) : Int) - 2 = (m : Int) - 1 := by omega
    rw [e1, e2]
    have T := hlz.getD m
    obtain ⟨ad, rfl, hl⟩ := ints_at (h.ext XS) (i := (m : Int)) (by omega) (by omega)
    simp only [Int.toNat_natCast] at hl
    refine exW ⟨by omega, by omega⟩ ⟨⟨by omega, by omega⟩, _, by simpa only [Int.toNat_natCast] using hl, ?_⟩
    refine Ret.at (impl_IntText_c (ht.ext XS) T.1 (by omega)) ?_
    rintro v w2 ⟨hv, y2⟩
    subst hv
    refine ⟨_, rfl, exW ⟨by omega, by omega⟩ ⟨fun text i wr => ∃ s : Nat, i = (s : Int) - 1 /\ s <= m /\ text.size <= (m - s) * 9 + 9 /\ natT z = text ++ natR (z.take s).reverse /\ Ext w wr, fun _ i _ => (i + 1).toNat,
      ⟨m, rfl, by omega, by have := (limb_text T).1; omega, natT_top hlen, XS.trans y2⟩, ?_⟩⟩
    intro junk wr text i ⟨s, hi, hs, hsz, htx, hx⟩
    subst hi
    refine ifD (fun hpos => ?_) (fun hend => ?_)
    · obtain ⟨t, rfl⟩ : ∃ t, s = t + 1 := ⟨s - 1, by omega⟩
      have e3 : ((t + 1 : Nat) : Int) - 1 = (t : Int) := by omega
      rw [e3]
      have A := hlz.getD t
      have L := limb_text A
      obtain ⟨ad, hp, hl⟩ := ints_at (h.ext hx) (i := (t : Int)) (by omega) (by omega)
      obtain rfl := Option.some.inj hp
      simp only [Int.toNat_natCast] at hl
      refine ⟨⟨by omega, by omega⟩, _, by simpa only [Int.toNat_natCast] using hl, ?_⟩
      refine Ret.at (impl_IntText_c (ht.ext hx) A.1 (by omega)) ?_
      rintro v w3 ⟨hv, y3⟩
      subst hv
      refine ⟨_, rfl, ?_⟩
      refine Ret.at (impl_Pad_c _ 9 (by omega) (by omega)) ?_
      rintro v w4 ⟨hv, y4⟩
      subst hv
      refine ⟨_, rfl, ?_, _, rfl, exW ⟨by omega, by omega⟩ ⟨⟨t, by omega, by omega, ?_, ?_, (hx.trans y3).trans y4⟩, ?_⟩⟩
      · have : (m - (t + 1)) * 9 <= m * 9 := Nat.mul_le_mul_right _ (by omega)
        omega
      · rw [ByteArray.size_append]
        have : m - t = (m - (t + 1)) + 1 := by omega
        rw [this]; omega
      · rw [htx, rev_take_succ (by omega), natR, ByteArray.append_assoc]
      · show ((t : Int) - 1 + 1).toNat < ((t : Int) + 1).toNat
        omega
    · have hs0 : s = 0 := by omega
      subst hs0
      refine ⟨?_, hx⟩
      rw [htx]
      simp [natR]
def dotT (t : ByteArray) (s : Int) : ByteArray := if 0 < s then (t.extract 0 (((t.size : Nat) : Int) - s).toNat ++ S [46]) ++ t.extract (((t.size : Nat) : Int) - s).toNat t.size else t
def decT : List D0 -> ByteArray
  | [.bool b, .ints z, .int s] => if decOk [.bool b, .ints z, .int s] then (if b then S [45] ++ dotT (padT (natT z) (s + 1)) s else dotT (padT (natT z) (s + 1)) s) else S []
  | _ => S []
theorem dotT_size (t : ByteArray) (s : Int) : (dotT t s).size <= t.size + 1 := by
  unfold dotT
  split
  · rw [ByteArray.size_append, ByteArray.size_append, ByteArray.size_extract, ByteArray.size_extract]
    show _ + 1 + _ <= _
    omega
  · omega
theorem decT_size (d : List D0) : (decT d).size <= 100 := by
  unfold decT
  split
  · rename_i b z s
    split
    · rename_i h
      obtain ⟨_, _, hz, hl, _, _⟩ := decOk_parts h
      have h1 := natT_size hz; have h3 := dotT_size (padT (natT z) (s + 1)) s
      have h2 : (padT (natT z) (s + 1)).size <= 60 := padT_le (by omega) (by omega)
      split
      · rw [ByteArray.size_append]
        show 1 + _ <= _
        omega
      · omega
    · show 0 <= _; omega
  · show 0 <= _; omega
theorem impl_DecText_c {w : World} {xs : List Value} {dx : List D0} (h : Reps w xs dx) (hc : dx.map D0.code = [.bool, .ints, .int]) (ht : TabP w) :
    Ret P n_impl_DecText [.agg ⟨xs⟩] w fun v w' => v = .string (decT dx) /\ Ext w w' := by
  have hr := h
  obtain ⟨a0, a1p, a1n, a1c, a1z, a2, rfl, rfl, ha⟩ := open_Dec h hc
  have hl := ha.1
  refine impl_DecText_ret ?_
  unfold impl_DecText
  intro r w1 hn1
  refine ⟨_, _, _, _, _, hn1.blk.loadA0 (by kernel_rfl), ?_⟩
  refine Ret.at (impl_DecOk_c (hr.ext hn1.ext) rfl) ?_
  rintro v w2 ⟨hv, y2⟩
  subst hv
  have X2 := hn1.ext.trans y2
  refine ⟨_, rfl, ifN (fun e => ⟨by simp only [decT, e, Bool.false_eq_true, if_false], X2⟩) (fun e => ?_)⟩
  obtain ⟨hio, hno, hz, hl6, hs0, hs1⟩ := decOk_parts e
  have D := Ext.drew w2
  have X3 := X2.trans D
  have b := hn1.blk.ext (y2.trans D)
  refine ⟨_, _, _, fun W hW => (b.ext hW).loadAt 1 rfl (by kernel_rfl) rfl, ?_⟩
  refine Ret.at (impl_natText_c (ha.ext X3) hz (by omega) (ht.ext X3)) ?_
  rintro v w4 ⟨hv, y4⟩
  subst hv
  have N1 := natT_size hz
  have N2 : a1z.length * 9 <= 6 * 9 := Nat.mul_le_mul_right _ hl6
  refine ⟨_, rfl, y4, _, fun W hW => (b.ext hW).loadAt 2 rfl (by kernel_rfl) rfl, exW ⟨by omega, by omega⟩ ?_⟩
  refine Ret.at (impl_Pad_c _ (a2 + 1) (by omega) (by omega)) ?_
  rintro v w5 ⟨hv, y5⟩
  subst hv
  have Y5 := y4.trans y5
  have N3 : (padT (natT a1z) (a2 + 1)).size <= 60 := padT_le (by omega) (by omega)
  have N4 := padT_ge (s := natT a1z) (n := a2 + 1) (by omega)
  have X5 := X3.trans Y5
  have b5 := b.ext Y5
  have fin : ∀ t W, Ext w5 W -> t.size <= 1000 -> t = dotT (padT (natT a1z) (a2 + 1)) a2 -> impl_DecText_j0 r t W fun v w' => v = .string (decT [.bool a0, .ints a1z, .int a2]) /\ Ext w w' := by
    intro t W hW hts ht
    unfold impl_DecText_j0
    refine ⟨_, (b5.ext hW).loadAt 0 rfl (by kernel_rfl) rfl, fun e0 => ?_, fun e0 => ?_⟩
    · refine ⟨?_, _, rfl, ?_⟩
      · show 1 + t.size <= 9223372036854775807
        omega
      unfold impl_DecText_j1
      refine ⟨?_, X5.trans hW⟩
      subst e0
      simp only [decT, e, if_true, ht]
    · unfold impl_DecText_j1
      refine ⟨?_, X5.trans hW⟩
      subst e0
      simp only [decT, e, if_true, ht, Bool.false_eq_true, if_false]
  refine ⟨_, rfl, _, b5.loadAt 2 rfl (by kernel_rfl) rfl, ifD (fun hpos => ?_) (fun hz0 => fin _ _ (Ext.refl _) (by omega) (by rw [dotT, if_neg hz0]))⟩
  refine ⟨_, b5.loadAt 2 rfl (by kernel_rfl) rfl, exW ⟨by omega, by omega⟩ ⟨⟨by omega, by omega⟩, ?_, _, rfl, ⟨by omega, by omega⟩, ?_, _, rfl, fin _ _ (Ext.drew _) ?_ (by rw [dotT, if_pos hpos])⟩⟩
  · rw [ByteArray.size_extract]
    show _ + 1 <= _
    omega
  · rw [ByteArray.size_append, ByteArray.size_extract, ByteArray.size_extract]
    show _ + 1 + _ <= _
    omega
  · rw [ByteArray.size_append, ByteArray.size_append, ByteArray.size_extract, ByteArray.size_extract]
    show _ + 1 + _ <= _
    omega
end Go.Proofs.YtgbknjdjbahdkaaGreatDoor
namespace Go.Proofs.YtgbknjdjbahdkaaGreatDoor
open Go Go.Proofs.YtgbknjdjbahdkaaGreatDoor.Sx
def isDig (c : UInt8) : Bool := decide (48 <= c.toNat) && decide (c.toNat <= 57)
def digV (l : List UInt8) : Nat := l.foldl (fun n c => n * 10 + (c.toNat - 48)) 0
theorem digV_fold : ∀ (l : List UInt8) (n : Nat), l.foldl (fun n c => n * 10 + (c.toNat - 48)) n = n * 10 ^ l.length + digV l
  | [], n => by simp [digV]
  | c :: r, n => by
    unfold digV
    rw [List.foldl_cons, List.foldl_cons, digV_fold r, digV_fold r (0 * 10 + _), List.length_cons, Nat.pow_succ]
    rw [Nat.zero_mul, Nat.zero_add, Nat.add_mul, Nat.mul_assoc, Nat.mul_comm 10, Nat.add_assoc]
theorem digV_append (a b : List UInt8) : digV (a ++ b) = digV a * 10 ^ b.length + digV b := by
  show List.foldl _ _ _ = _
  rw [List.foldl_append, digV_fold]; rfl
theorem digV_snoc (a : List UInt8) (c : UInt8) : digV (a ++ [c]) = digV a * 10 + (c.toNat - 48) := by
  rw [digV_append]; simp [digV]
theorem dig_le {c : UInt8} (h : isDig c = true) : 48 <= c.toNat /\ c.toNat <= 57 := by simpa [isDig] using h
theorem digV_lt : ∀ {l : List UInt8}, l.all isDig = true -> digV l < 10 ^ l.length
  | [], _ => by simp [digV]
  | c :: r, h => by
    simp only [List.all_cons, Bool.and_eq_true] at h
    have h1 := digV_lt h.2; have h2 := dig_le h.1
    have e : digV (c :: r) = digV [c] * 10 ^ r.length + digV r := digV_append [c] r
    have e2 : digV [c] = c.toNat - 48 := by simp [digV]
    rw [e, e2, List.length_cons, Nat.pow_succ]
    have : (c.toNat - 48) * 10 ^ r.length <= 9 * 10 ^ r.length := Nat.mul_le_mul_right _ (by omega)
    omega
theorem digB {u : Nat} (h : u < 10) : (UInt8.ofNat (48 + u)).toNat = 48 + u := by
  rw [UInt8.toNat_ofNat']; omega
theorem dec_ind {p : Nat -> Prop} (h1 : ∀ n, n < 10 -> p n) (h2 : ∀ n, ¬ n < 10 -> p (n / 10) -> p n) (n : Nat) : p n := by
  induction n using Nat.strongRecOn with
  | ind n ih =>
    by_cases h : n < 10
    · exact h1 n h
    · exact h2 n h (ih _ (by omega))
theorem digV_dec (n : Nat) : digV (Lib.decDigits n) = n := by
  induction n using dec_ind with
  | h1 n h => rw [decDigits_small h]; simp only [digV, List.foldl_cons, List.foldl_nil]; rw [digB h]; omega
  | h2 n h ih => rw [decDigits_big h, digV_snoc, ih, digB (by omega)]; omega
theorem isDigB {u : Nat} (h : u < 10) : isDig (UInt8.ofNat (48 + u)) = true := by
  simp only [isDig, Bool.and_eq_true, decide_eq_true_eq]; rw [digB h]; omega
theorem dec_all (n : Nat) : (Lib.decDigits n).all isDig = true := by
  induction n using dec_ind with
  | h1 n h => rw [decDigits_small h, List.all_cons, isDigB h]; rfl
  | h2 n h ih => rw [decDigits_big h, List.all_append, ih, List.all_cons, isDigB (by omega)]; rfl
theorem dec_head (n : Nat) : 0 < n -> ∃ c r, Lib.decDigits n = c :: r /\ c ≠ 48 := by
  induction n using dec_ind with
  | h1 n h =>
    intro hn
    refine ⟨_, _, decDigits_small h, fun hh => ?_⟩
    have := congrArg UInt8.toNat hh
    rw [digB h] at this
    have e : (48 : UInt8).toNat = 48 := rfl
    omega
  | h2 n h ih =>
    intro hn
    obtain ⟨c, r, h1, h2⟩ := ih (by omega)
    exact ⟨c, r ++ _, by rw [decDigits_big h, h1]; rfl, h2⟩
theorem dec_ne (n : Nat) : Lib.decDigits n ≠ [] := by
  by_cases h : n < 10
  · rw [decDigits_small h]; simp
  · rw [decDigits_big h]; simp
def fx : Nat -> Nat -> List UInt8
  | 0, _ => []
  | k + 1, r => fx k (r / 10) ++ [UInt8.ofNat (48 + r % 10)]
theorem dec_fx {q : Nat} (hq : 0 < q) : ∀ (k : Nat) {r : Nat}, r < 10 ^ k -> Lib.decDigits (q * 10 ^ k + r) = Lib.decDigits q ++ fx k r
  | 0, r, h => by simp at h; subst h; simp [fx]
  | k + 1, r, h => by
    rw [Nat.pow_succ] at h ⊢
    have e : q * (10 ^ k * 10) + r = 10 * (q * 10 ^ k) + r := by rw [<- Nat.mul_assoc, Nat.mul_comm]
    have hp : 0 < q * 10 ^ k := Nat.mul_pos hq (Nat.pow_pos (by decide))
    rw [decDigits_big (by omega), e]
    have e1 : (10 * (q * 10 ^ k) + r) / 10 = q * 10 ^ k + r / 10 := by omega
    have e2 : (10 * (q * 10 ^ k) + r) % 10 = r % 10 := by omega
    rw [e1, e2, dec_fx hq k (by omega), fx, List.append_assoc]
theorem fx_pad : ∀ (k : Nat) {r : Nat}, r < 10 ^ (k + 1) -> fx (k + 1) r = List.replicate (k + 1 - (Lib.decDigits r).length) 48 ++ Lib.decDigits r
  | 0, r, h => by
    have h : r < 10 := by simpa using h
    rw [decDigits_small h, fx, fx, Nat.mod_eq_of_lt h]; rfl
  | k + 1, r, h => by
    have h' : r / 10 < 10 ^ (k + 1) := by rw [Nat.pow_succ] at h; omega
    rw [fx, fx_pad k h']
    by_cases hr : r < 10
    · have e : r / 10 = 0 := by omega
      rw [e, decDigits_small (show 0 < 10 by decide), decDigits_small hr, Nat.mod_eq_of_lt hr]
      show List.replicate k 48 ++ [48] ++ _ = List.replicate (k + 1) 48 ++ _
      rw [List.replicate_succ']
    · rw [decDigits_big hr, List.length_append, List.append_assoc]
      show _ = List.replicate (k + 1 + 1 - (_ + 1)) 48 ++ _
      rw [Nat.add_sub_add_right]
theorem padT_list {n : Nat} {k : Nat} (hk : k <= 2000) : (padT (itxt n) (k : Int)).data.toList = List.replicate (k - (Lib.decDigits n).length) 48 ++ Lib.decDigits n := by
  have hs : (itxt n).size = (Lib.decDigits n).length := by rw [ba_size, itxt]
  unfold padT
  split
  · rename_i h
    have : k - (Lib.decDigits n).length = 0 := by omega
    rw [this]; rfl
  · have e : ((k : Int) - ((itxt n).size : Nat)).toNat = k - (Lib.decDigits n).length := by omega
    rw [e]
    simp [zeros, itxt]
theorem natR_append : ∀ (a b : List Int), natR (a ++ b) = natR a ++ natR b
  | [], b => by rw [List.nil_append, natR, ba_empty_append]
  | x :: a, b => by rw [List.cons_append, natR, natR, natR_append a b, ByteArray.append_assoc]
theorem natT_digs (n : Nat) : natT (digs n) = itxt n := by
  induction n using Nat.strongRecOn with
  | ind n ih =>
    by_cases h0 : n = 0
    · subst h0
      rw [digs_zero, itxt_small (by decide)]
      rfl
    · rw [digs, dif_neg h0]
      by_cases hb : n < 1000000000
      · have e1 : n / 1000000000 = 0 := by omega
        have e2 : n % 1000000000 = n := by omega
        rw [e1, e2, digs_zero]
        show itxt (n : Int).toNat ++ natR [] = _
        rw [natR, ba_append_empty, Int.toNat_natCast]
      · have hq : 0 < n / 1000000000 := by omega
        have ihq := ih (n / 1000000000) (by omega)
        cases e : (digs (n / 1000000000)).reverse with
        | nil =>
          have : digs (n / 1000000000) = [] := by simpa using e
          have h2 := val_digs (n / 1000000000)
          rw [this] at h2
          simp [val] at h2
          omega
        | cons x r =>
          have e3 : natT (digs (n / 1000000000)) = itxt x.toNat ++ natR r := by unfold natT; rw [e]
          have e4 : natT (((n % 1000000000 : Nat) : Int) :: digs (n / 1000000000)) = itxt x.toNat ++ natR (r ++ [((n % 1000000000 : Nat) : Int)]) := by
            unfold natT
            rw [List.reverse_cons, e]; rfl
          rw [e4, natR_append, <- ByteArray.append_assoc, <- e3, ihq, natR, natR, ba_append_empty, Int.toNat_natCast]
          apply ba_ext
          have h9 : n % 1000000000 < 10 ^ (8 + 1) := by omega
          have hp := padT_list (n := n % 1000000000) (k := 9) (by decide)
          have hf := fx_pad 8 h9
          have hd := dec_fx hq 9 h9
          have en : n / 1000000000 * 10 ^ 9 + n % 1000000000 = n := by
            have : (10 : Nat) ^ 9 = 1000000000 := by decide
            rw [this]; omega
          rw [en] at hd
          rw [ByteArray.data_append, Array.toList_append]
          show Lib.decDigits (n / 1000000000) ++ (padT (itxt (n % 1000000000)) 9).data.toList = Lib.decDigits n
          rw [hd, hf]
          exact congrArg _ hp
def strip : List UInt8 -> List UInt8
  | a :: c :: r => if a = 48 then strip (c :: r) else a :: c :: r
  | l => l
theorem strip_dec (n : Nat) : strip (Lib.decDigits n) = Lib.decDigits n := by
  by_cases h : n < 10
  · rw [decDigits_small h]; rfl
  · obtain ⟨c, r, h1, h2⟩ := dec_head n (by omega)
    rw [h1]
    cases r with
    | nil => rfl
    | cons d r => rw [strip, if_neg h2]
theorem strip_zeros : ∀ (k n : Nat), strip (List.replicate k 48 ++ Lib.decDigits n) = Lib.decDigits n
  | 0, n => strip_dec n
  | k + 1, n => by
    rw [List.replicate_succ, List.cons_append]
    cases e : List.replicate k 48 ++ Lib.decDigits n with
    | nil => exact absurd (List.append_eq_nil_iff.1 e).2 (dec_ne n)
    | cons c r =>
      rw [strip, if_pos rfl, <- e]
      exact strip_zeros k n
def scaleG (acc : Nat) : List UInt8 -> Nat
  | [] => acc
  | c :: r => scaleG (if c = 46 then r.length else acc) r
theorem scaleG_none : ∀ {l : List UInt8} {acc : Nat}, (∀ c ∈ l, c ≠ 46) -> scaleG acc l = acc
  | [], _, _ => rfl
  | c :: r, acc, h => by
    rw [scaleG, if_neg (h c (List.mem_cons_self ..))]
    exact scaleG_none (fun d hd => h d (List.mem_cons_of_mem _ hd))
theorem scaleG_dot : ∀ {a : List UInt8} {acc : Nat} {b : List UInt8}, (∀ c ∈ a, c ≠ 46) -> (∀ c ∈ b, c ≠ 46) -> scaleG acc (a ++ 46 :: b) = b.length
  | [], acc, b, _, h => by
    rw [List.nil_append, scaleG, if_pos rfl]
    exact scaleG_none h
  | c :: r, acc, b, h, hb => by
    rw [List.cons_append, scaleG, if_neg (h c (List.mem_cons_self ..))]
    exact scaleG_dot (fun d hd => h d (List.mem_cons_of_mem _ hd)) hb
end Go.Proofs.YtgbknjdjbahdkaaGreatDoor
namespace Go.Proofs.YtgbknjdjbahdkaaGreatDoor
open Go Go.Proofs.YtgbknjdjbahdkaaGreatDoor.Sx
def dsn (b : Bool) (m : Nat) (s : Int) : List D0 := [.bool b, .ints (digs m), .int s]
theorem sgn_digs {b : Bool} {m : Nat} (hb : b = true -> m ≠ 0) : (b && !(digs m).isEmpty) = b := by
  cases b with
  | false => rfl
  | true =>
    have := digs_pos_len.2 (hb rfl)
    cases hd : digs m with
    | nil => rw [hd] at this; simp at this
    | cons _ _ => rfl
end Go.Proofs.YtgbknjdjbahdkaaGreatDoor
namespace Go.Proofs.YtgbknjdjbahdkaaGreatDoor
open Go Go.Proofs.YtgbknjdjbahdkaaGreatDoor.Sx
def numOk (l : List UInt8) : Bool := !l.isEmpty && l.all isDig && decide (l.length <= 450) && !(decide (1 < l.length) && decide (l.head? = some 48))
def filt (l : List UInt8) : List UInt8 := l.filter (fun c => c != 46 && c != 45)
def cand (l : List UInt8) : List D0 := [.bool (decide (l.head? = some 45)), .ints (digs (digV (strip (filt l)))), .int (scaleG 0 l : Nat)]
def body (D : List UInt8) (s : Nat) : List UInt8 := if s = 0 then D else D.take (D.length - s) ++ 46 :: D.drop (D.length - s)
def zeroDec : List D0 := [.bool false, .ints [], .int 0]
def tdOk (s : ByteArray) : Bool := decOk (cand s.data.toList) && decide (decT (cand s.data.toList) = s)
theorem dig_ne {c : UInt8} (h : isDig c = true) : c ≠ 46 /\ c ≠ 45 := by
  have := dig_le h
  refine ⟨fun hh => ?_, fun hh => ?_⟩ <;> subst hh
  · exact absurd this.1 (by decide)
  · exact absurd this.1 (by decide)
theorem filt_dig {l : List UInt8} (h : l.all isDig = true) : filt l = l := by
  unfold filt
  rw [List.filter_eq_self]
  intro c hc
  have := dig_ne (List.all_eq_true.1 h c hc)
  simp [this.1, this.2]
theorem filt_append (a b : List UInt8) : filt (a ++ b) = filt a ++ filt b := List.filter_append ..
theorem filt_body {D : List UInt8} {s : Nat} (h : D.all isDig = true) : filt (body D s) = D := by
  unfold body
  split
  · exact filt_dig h
  · have h1 : (D.take (D.length - s)).all isDig = true := List.all_eq_true.2 fun c hc => List.all_eq_true.1 h c (List.mem_of_mem_take hc)
    have h2 : (D.drop (D.length - s)).all isDig = true := List.all_eq_true.2 fun c hc => List.all_eq_true.1 h c (List.mem_of_mem_drop hc)
    rw [filt_append, filt_dig h1]
    show _ ++ filt (D.drop (D.length - s)) = D
    rw [filt_dig h2, List.take_append_drop]
theorem scale_body {D : List UInt8} {s : Nat} {acc : Nat} (h : D.all isDig = true) (hs : s < D.length) : scaleG acc (body D s) = if s = 0 then acc else s := by
  have h0 : ∀ c ∈ D, c ≠ 46 := fun c hc => (dig_ne (List.all_eq_true.1 h c hc)).1
  unfold body
  split
  · exact scaleG_none h0
  · rw [scaleG_dot (fun c hc => h0 c (List.mem_of_mem_take hc)) (fun c hc => h0 c (List.mem_of_mem_drop hc)), List.length_drop]
    omega
theorem body_head {D : List UInt8} {s : Nat} (h : D.all isDig = true) (hs : s < D.length) : ∃ c r, body D s = c :: r /\ isDig c = true := by
  cases D with
  | nil => simp at hs
  | cons c r =>
    have hc : isDig c = true := by simp only [List.all_cons, Bool.and_eq_true] at h; exact h.1
    unfold body
    split
    · exact ⟨c, r, rfl, hc⟩
    · have : (c :: r).length - s = ((c :: r).length - s - 1) + 1 := by omega
      rw [this, List.take_succ_cons]
      exact ⟨c, _, rfl, hc⟩
theorem body_len {D : List UInt8} {s : Nat} : (body D s).length <= D.length + 1 := by
  unfold body
  split
  · omega
  · rw [List.length_append, List.length_cons, List.length_take, List.length_drop]; omega
theorem decT_shape {b : Bool} {z : List Int} {s : Int} (h : decOk [.bool b, .ints z, .int s] = true) :
    ∃ (m t k : Nat), z = digs m /\ s = t /\ t <= 30 /\ (b = true -> m ≠ 0) /\ (digs m).length <= 6 /\ (List.replicate k 48 ++ Lib.decDigits m).all isDig = true /\ t < (List.replicate k (48 : UInt8) ++ Lib.decDigits m).length /\ (List.replicate k (48 : UInt8) ++ Lib.decDigits m).length <= 90 /\
      (decT [.bool b, .ints z, .int s]).data.toList = (if b then [45] else []) ++ body (List.replicate k 48 ++ Lib.decDigits m) t := by
  obtain ⟨hi, hn, hl, hz, h0, h30⟩ := decOk_parts h
  have hcz : digs (val z).toNat = z := digs_val (natOk_spec.1 hn).1
  obtain ⟨m, hm⟩ : ∃ m, (val z).toNat = m := ⟨_, rfl⟩
  rw [hm] at hcz
  obtain ⟨t, ht⟩ : ∃ t : Nat, s = t := ⟨s.toNat, by omega⟩
  subst ht
  subst hcz
  have hb : b = true -> m ≠ 0 := by
    intro hb hm0
    subst hb; subst hm0
    rw [digs_zero] at hi
    simp [intOk] at hi
  have e9 : ((t : Int) + 1) = ((t + 1 : Nat) : Int) := rfl
  have hD := padT_list (n := m) (k := t + 1) (by omega)
  obtain ⟨k, hk⟩ : ∃ k, t + 1 - (Lib.decDigits m).length = k := ⟨_, rfl⟩
  rw [hk] at hD
  have hne : 0 < (Lib.decDigits m).length := List.length_pos_iff.2 (dec_ne m)
  have hlen : (List.replicate k (48 : UInt8) ++ Lib.decDigits m).length = k + (Lib.decDigits m).length := by simp
  have hall : (List.replicate k 48 ++ Lib.decDigits m).all isDig = true := by
    rw [List.all_append, dec_all, Bool.and_true, List.all_eq_true]
    intro c hc
    rw [(List.mem_replicate.1 hc).2]; rfl
  have hsz : (Lib.decDigits m).length <= 55 := by
    have h1 := natT_size hl
    rw [natT_digs, ba_size, itxt] at h1
    have h1 : (Lib.decDigits m).length <= _ := h1
    omega
  refine ⟨m, t, k, rfl, rfl, by omega, hb, hz, hall, by rw [hlen]; omega, by rw [hlen]; omega, ?_⟩
  obtain ⟨D, hDD⟩ : ∃ D, List.replicate k 48 ++ Lib.decDigits m = D := ⟨_, rfl⟩
  rw [hDD] at hD hlen ⊢
  have hpl : (padT (itxt m) ((t : Int) + 1)).size = D.length := by rw [ba_size, e9, hD]
  have hdot : (dotT (padT (itxt m) ((t : Int) + 1)) (t : Int)).data.toList = body D t := by
    unfold dotT body
    by_cases ht0 : t = 0
    · rw [if_neg (by omega), if_pos ht0, e9, hD]
    · have e5 : ((((D.length : Nat) : Int)) - (t : Int)).toNat = D.length - t := by omega
      rw [if_pos (by omega), if_neg ht0, hpl, e5]
      simp only [ByteArray.data_append, Array.toList_append, ByteArray.data_extract, Array.toList_extract, e9, hD]
      rw [hD, List.extract_eq_take_drop, List.extract_eq_take_drop, List.drop_zero, Nat.sub_zero, List.append_assoc, List.take_of_length_le (l := D.drop _) (by rw [List.length_drop]; omega)]
      rfl
  show (if decOk [.bool b, .ints (digs m), .int (t : Int)] then (if b then S [45] ++ dotT (padT (natT (digs m)) ((t : Int) + 1)) t else dotT (padT (natT (digs m)) ((t : Int) + 1)) t) else S []).data.toList = _
  rw [h, if_pos rfl, natT_digs]
  cases b
  · rw [if_neg (by decide), if_neg (by decide)]
    exact hdot
  · rw [if_pos rfl, if_pos rfl, ByteArray.data_append, Array.toList_append, hdot]
theorem numOk_dec {m : Nat} (h : (Lib.decDigits m).length <= 450) : numOk (Lib.decDigits m) = true := by
  unfold numOk
  rw [dec_all, decide_eq_true h]
  have h1 : (Lib.decDigits m).isEmpty = false := by
    cases e : Lib.decDigits m with
    | nil => exact absurd e (dec_ne m)
    | cons _ _ => rfl
  rw [h1]
  by_cases hm : m < 10
  · rw [decDigits_small hm]; rfl
  · obtain ⟨c, r, e, hc⟩ := dec_head m (by omega)
    rw [e]
    simp [hc]
theorem filt_sign {b : Bool} {l : List UInt8} : filt ((if b then [45] else []) ++ l) = filt l := by
  rw [filt_append]; cases b <;> rfl
theorem scale_sign {b : Bool} {l : List UInt8} : scaleG 0 ((if b then [45] else []) ++ l) = scaleG 0 l := by cases b <;> rfl
theorem cand_decT {d : List D0} (hc : d.map D0.code = [.bool, .ints, .int]) (h : decOk d = true) : cand (decT d).data.toList = d /\ numOk (strip (filt (decT d).data.toList)) = true := by
  match d, hc with
  | [.bool b, .ints z, .int s], _ =>
    obtain ⟨m, t, k, rfl, rfl, ht, hb, hm, hall, hlt, hle, e⟩ := decT_shape h
    have hf : filt (decT [.bool b, .ints (digs m), .int (t : Int)]).data.toList = List.replicate k 48 ++ Lib.decDigits m := by
      rw [e, filt_sign, filt_body hall]
    have hsc : scaleG 0 (decT [.bool b, .ints (digs m), .int (t : Int)]).data.toList = t := by
      rw [e, scale_sign, scale_body hall hlt]
      split
      · omega
      · rfl
    have hhd : decide ((decT [.bool b, .ints (digs m), .int (t : Int)]).data.toList.head? = some 45) = b := by
      rw [e]
      obtain ⟨c, r, e2, hc2⟩ := body_head hall hlt
      rw [e2]
      cases b
      · have := (dig_ne hc2).2
        simp [this]
      · rfl
    refine ⟨?_, ?_⟩
    · unfold cand
      rw [hf, hsc, hhd, strip_zeros, digV_dec]
    · rw [hf, strip_zeros]
      refine numOk_dec ?_
      rw [List.length_append] at hle
      omega
end Go.Proofs.YtgbknjdjbahdkaaGreatDoor
namespace Go.Proofs.YtgbknjdjbahdkaaGreatDoor
open Go Go.Proofs.YtgbknjdjbahdkaaGreatDoor.Sx
def cuts (c : UInt8) (acc : List UInt8) : List UInt8 -> List (List UInt8)
  | [] => [acc]
  | x :: r => if x = c then acc :: cuts c [] r else cuts c (acc ++ [x]) r
theorem cuts_none {c : UInt8} : ∀ {l acc : List UInt8}, (∀ x ∈ l, x ≠ c) -> cuts c acc l = [acc ++ l]
  | [], acc, _ => by rw [cuts, List.append_nil]
  | x :: r, acc, h => by
    rw [cuts, if_neg (h x (List.mem_cons_self ..)), cuts_none (fun y hy => h y (List.mem_cons_of_mem _ hy)), List.append_assoc]
    rfl
theorem cuts_dot {c : UInt8} : ∀ {a acc b : List UInt8}, (∀ x ∈ a, x ≠ c) -> cuts c acc (a ++ c :: b) = (acc ++ a) :: cuts c [] b
  | [], acc, b, _ => by rw [List.nil_append, cuts, if_pos rfl, List.append_nil]
  | x :: r, acc, b, h => by
    rw [List.cons_append, cuts, if_neg (h x (List.mem_cons_self ..)), cuts_dot (fun y hy => h y (List.mem_cons_of_mem _ hy)), List.append_assoc]
    rfl
theorem cuts_flat {c : UInt8} : ∀ (l acc : List UInt8), (cuts c acc l).flatten = acc ++ l.filter (fun x => x != c)
  | [], acc => by simp [cuts]
  | x :: r, acc => by
    rw [cuts]
    by_cases h : x = c
    · rw [if_pos h, List.flatten_cons, cuts_flat r]
      simp [h]
    · rw [if_neg h, cuts_flat r]
      simp [h]
theorem cuts_ne {c : UInt8} (l acc : List UInt8) : cuts c acc l ≠ [] := by
  induction l generalizing acc with
  | nil => simp [cuts]
  | cons x r ih => rw [cuts]; split <;> simp [ih]
theorem cuts_len {c : UInt8} : ∀ (l acc : List UInt8), (cuts c acc l).length = l.count c + 1
  | [], acc => rfl
  | x :: r, acc => by
    rw [cuts]
    by_cases h : x = c
    · rw [if_pos h, List.length_cons, cuts_len r, h, List.count_cons_self]
    · rw [if_neg h, cuts_len r, List.count_cons_of_ne h]
end Go.Proofs.YtgbknjdjbahdkaaGreatDoor
namespace Go.Proofs.YtgbknjdjbahdkaaGreatDoor
open Go Go.Proofs.YtgbknjdjbahdkaaGreatDoor.Sx
def digS (l : List UInt8) : Bool := !l.isEmpty && l.all isDig
theorem ba_get {s : ByteArray} {i : Nat} (h : i < s.data.toList.length) : s[((i : Nat) : Int).toNat]? = some (s.data.toList[i]'h) := by
  rw [Int.toNat_natCast]
  exact getElem?_pos s i h
theorem take_drop_snoc {l : List UInt8} {a i : Nat} (h : a <= i) (hi : i < l.length) : (l.take (i + 1)).drop a = (l.take i).drop a ++ [l[i]'hi] := by
  rw [List.take_succ_eq_append_getElem hi, List.drop_append_of_le_length (by rw [List.length_take]; omega)]
theorem take_drop_all {l : List UInt8} {a : Nat} (i : Nat) (h : l.all isDig = true) : ((l.take i).drop a).all isDig = true :=
  List.all_eq_true.2 fun c hc => List.all_eq_true.1 h c (List.mem_of_mem_take (List.mem_of_mem_drop hc))
theorem take_drop_lt {l : List UInt8} {a i : Nat} (h : l.all isDig = true) (hi : i <= a + 9) : digV ((l.take i).drop a) < 1000000000 := by
  have h1 := digV_lt (take_drop_all (a := a) i h)
  have h2 : 10 ^ ((l.take i).drop a).length <= 10 ^ 9 := Nat.pow_le_pow_right (by decide) (by rw [List.length_drop, List.length_take]; omega)
  have h3 : (10 : Nat) ^ 9 = 1000000000 := by decide
  omega
theorem drop_chunk {l : List UInt8} {a i : Nat} (h : a <= i) : l.drop a = (l.take i).drop a ++ l.drop i := by
  have h1 := List.take_append_drop (i - a) (l.drop a)
  rw [List.drop_drop] at h1
  rw [<- h1, List.take_drop]
  congr 2 <;> (congr 1; omega)
theorem chunk_val {l : List UInt8} {a i k : Nat} {o : List Int} (h : a <= i) (hi : i + 9 * k = l.length) (ho : o.length = k) (hv : val o = (digV (l.drop i) : Nat)) :
    val (o ++ [((digV ((l.take i).drop a) : Nat) : Int)]) = (digV (l.drop a) : Nat) := by
  have hd : digV (l.drop a) = digV ((l.take i).drop a) * 10 ^ (l.drop i).length + digV (l.drop i) := by
    rw [<- digV_append, <- drop_chunk h]
  rw [val_snoc, hv, ho, hd]
  have e : (10 : Nat) ^ (l.drop i).length = 1000000000 ^ k := by
    rw [List.length_drop, show l.length - i = 9 * k from by omega, Nat.pow_mul]
  rw [e]
  rw [Int.natCast_add, Int.natCast_mul, Int.natCast_pow, Int.add_comm, Int.mul_comm]
  rfl
theorem exW8 {e : Int} {Q : Int -> Prop} (h : 0 <= e /\ e < 256) (hq : Q e) : ∃ z, z = IntKind.wrap .u8 e /\ Q z := by
  have wu : ∀ z : Int, 0 <= z -> z < 256 -> IntKind.wrap .u8 z = z := fun z h0 h1 => by
    simp only [IntKind.wrap, IntKind.bits, IntKind.signed]
    simp
    omega
  exact ⟨e, (wu e h.1 h.2).symm, hq⟩
theorem digI (c : UInt8) : decide ((48 : Int) <= ((c.toNat : Nat) : Int) /\ ((c.toNat : Nat) : Int) <= 57) = isDig c := by
  rw [Bool.eq_iff_iff]
  simp only [isDig, Bool.and_eq_true, decide_eq_true_eq]
  omega
theorem ne_empty (s : ByteArray) : decide (s ≠ S []) = !s.data.toList.isEmpty := by
  rw [Bool.eq_iff_iff]
  simp only [decide_eq_true_eq, Bool.not_eq_true']
  constructor
  · intro h
    cases e : s.data.toList with
    | nil => exact absurd (ba_ext (e.trans rfl)) h
    | cons _ _ => rfl
  · intro h hs
    subst hs
    exact absurd h (by decide)
theorem impl_IsDigits_c (s : ByteArray) (hs : s.size <= 9000000000000000000) (w : World) : Ret P n_impl_IsDigits [.string s] w fun v w' => v = .bool (digS s.data.toList) /\ w' = w := by
  obtain ⟨l, hl⟩ : ∃ l, s.data.toList = l := ⟨_, rfl⟩
  have hsl : s.size = l.length := by rw [ba_size, hl]
  refine impl_IsDigits_ret ?_
  unfold impl_IsDigits
  refine ⟨fun i wr => ∃ j : Nat, i = j /\ j <= l.length /\ wr = w /\ (l.take j).all isDig = true, fun i _ => l.length - i.toNat, ⟨0, rfl, by omega, rfl, rfl⟩, ?_⟩
  intro junk wr i ⟨j, hij, hj, hw, hall⟩
  subst hij; subst hw
  refine ifD (fun hlt => ?_) (fun hge => ⟨?_, rfl⟩)
  · have hjl : j < l.length := by omega
    refine ⟨by omega, l[j]'hjl, by subst hl; exact ba_get hjl, ?_⟩
    refine Ret.at (impl_isDigit_c _ wr) ?_
    rintro v w1 ⟨hv, hw⟩
    subst hv; subst hw
    rw [digI]
    refine ⟨_, rfl, ifN (fun hno => ⟨?_, rfl⟩) (fun hyes => exW ⟨by omega, by omega⟩ ⟨⟨j + 1, rfl, by omega, rfl, ?_⟩, by show l.length - ((j : Int) + 1).toNat < l.length - (j : Int).toNat; omega⟩)⟩
    · rw [hl]
      have : l.all isDig = false := by
        rw [Bool.eq_false_iff]
        intro ha
        rw [List.all_eq_true.1 ha _ (List.getElem_mem hjl)] at hno
        cases hno
      unfold digS
      rw [this, Bool.and_false]
    · rw [List.take_succ_eq_append_getElem hjl, List.all_append, hall, List.all_cons, hyes]; simp
  · rw [List.take_of_length_le (by omega)] at hall
    rw [ne_empty, hl]
    unfold digS
    rw [hall, Bool.and_true]
theorem impl_TextNat_o {w : World} (s : ByteArray) (hs : s.size <= 9000000000000000000) : Ret P n_impl_TextNat [.string s] w fun v w' => ∃ p n c, v = .tuple #[.slice p n c, .bool (numOk s.data.toList)] /\ Sx.Own w' w.heap.size T_int 1 p n c ((if numOk s.data.toList then digs (digV s.data.toList) else []).map (Value.int .i64)) /\ Ext w w' := by
  obtain ⟨l, hl⟩ : ∃ l, s.data.toList = l := ⟨_, rfl⟩
  have hsl : s.size = l.length := by rw [ba_size, hl]
  refine impl_TextNat_ret ?_
  unfold impl_TextNat
  refine Ret.at (impl_IsDigits_c s hs w) ?_
  rintro v w1 ⟨hv, hw⟩
  subst hv; subst hw
  have no : numOk l = false -> ∃ p n c, Value.tuple #[.slice none 0 0, .bool false] = .tuple #[.slice p n c, .bool (numOk s.data.toList)] /\ Sx.Own w1 w1.heap.size T_int 1 p n c ((if numOk s.data.toList then digs (digV s.data.toList) else []).map (Value.int .i64)) /\ Ext w1 w1 := fun h => by
    rw [hl, h]
    exact ⟨none, 0, 0, rfl, Own.nil _ _ _ _, Ext.refl _⟩
  have go : numOk l = true -> impl_TextNat_j0 s w1 fun v w' => ∃ p n c, v = .tuple #[.slice p n c, .bool (numOk s.data.toList)] /\ Sx.Own w' w1.heap.size T_int 1 p n c ((if numOk s.data.toList then digs (digV s.data.toList) else []).map (Value.int .i64)) /\ Ext w1 w' := by
    intro h
    have hall : l.all isDig = true := by simp only [numOk, Bool.and_eq_true] at h; exact h.1.1.2
    have hlen : l.length <= 450 := by simp only [numOk, Bool.and_eq_true, decide_eq_true_eq] at h; exact h.1.2
    rw [hl, h]
    unfold impl_TextNat_j0
    intro r wa hna
    refine ⟨fun p on c e wr => ∃ o : List Int, e = (l.length : Int) - 9 * on /\ e <= l.length /\ -9 < e /\ Own wr w1.heap.size T_int 1 p on c (o.map (Value.int .i64)) /\ Ext w1 wr /\ Limbs o /\ o.length = on /\ val o = (digV (l.drop e.toNat) : Nat), fun _ _ _ e _ => (e + 9).toNat, ⟨[], by omega, by omega, by omega, Own.fresh hna, hna.ext, Limbs.nil, rfl, ?_⟩, ?_⟩
    · rw [hsl, Int.toNat_natCast, List.drop_length]; rfl
    intro junk wr op on oc e ⟨o, he, hel, he9, hown, hx, hlo, hol, hv⟩
    have hon := hown.1
    refine ifD (fun hlt => ?_) (fun hge => ?_)
    · obtain ⟨i, hi⟩ : ∃ i : Nat, e = i := ⟨e.toNat, by omega⟩
      subst hi
      obtain ⟨a, ha⟩ : ∃ a : Nat, ((i : Int) - 9).toNat = a := ⟨_, rfl⟩
      have hm : (if (i : Int) - 9 > 0 then (i : Int) - 9 else 0) = (a : Int) := by split <;> omega
      refine exW ⟨by omega, by omega⟩ ⟨_, rfl, ⟨by omega, by omega⟩, ⟨by rw [hm]; omega, by rw [hm]; omega⟩, ?_⟩
      rw [hm, Int.toNat_natCast, Int.toNat_natCast]
      obtain ⟨u, hu⟩ : ∃ u, s.extract a i = u := ⟨_, rfl⟩
      have hul : u.data.toList = (l.take i).drop a := by
        rw [<- hu, <- hl, ByteArray.data_extract, Array.toList_extract, List.extract_eq_take_drop, List.drop_take]
      have hus : u.size = i - a := by rw [ba_size, hul, List.length_drop, List.length_take]; omega
      rw [hu]
      refine ⟨_, _, _, _, Lib.run_convert_string_bytes wr _ _ T_uint8 u (u := .string) (by kernel_rfl) (by kernel_rfl) (by kernel_rfl), ?_⟩
      have xb : Ext wr (Lib.bytesWorld wr T_uint8 u) := Joins.below_bytesWorld _ wr T_uint8 u (Nat.le_refl _)
      have cellAt : ∀ j, j < u.size -> (Lib.bytesWorld wr T_uint8 u).cell? ⟨wr.heap.size, j, none⟩ = some (.int .u8 (u.data.toList.getD j 0).toNat) := fun j hj => Lib.bytesWorld_cell wr T_uint8 u j hj
      obtain ⟨wb, hwb⟩ : ∃ wb, Lib.bytesWorld wr T_uint8 u = wb := ⟨_, rfl⟩
      rw [hwb] at xb cellAt ⊢
      refine ⟨fun n k W => ∃ j : Nat, k = j /\ j <= i - a /\ W = wb /\ n = (digV ((l.take (a + j)).drop a) : Nat), fun _ k _ => i - a - k.toNat, ⟨0, rfl, by omega, rfl, by rw [Nat.add_zero, List.drop_take_self]; rfl⟩, ?_⟩
      intro junk2 W n k ⟨j, hkj, hji, hW, hn⟩
      subst hkj; subst hW; subst hn
      refine ifD (fun hlt2 => ?_) (fun hge2 => ?_)
      · have hjl : a + j < l.length := by omega
        have hb := take_drop_lt (a := a) (i := a + j) hall (by omega)
        have hb2 := take_drop_lt (a := a) (i := a + j + 1) hall (by omega)
        rw [take_drop_snoc (by omega) hjl, digV_snoc] at hb2
        have hd := dig_le (List.all_eq_true.1 hall _ (List.getElem_mem hjl))
        have hg : u.data.toList.getD j 0 = l[a + j]'hjl := by
          rw [hul, List.getD_eq_getElem?_getD, List.getElem?_drop, List.getElem?_take_of_lt (by omega), List.getElem?_eq_getElem hjl]; rfl
        have hc := cellAt j (by omega)
        rw [hg] at hc
        have hld : Loads P T_uint8 ((⟨wr.heap.size, 0, none⟩ : Addr).add ((j : Int).toNat * 1)) (.int .u8 (((l[a + j]'hjl).toNat : Nat) : Int)) W := by
          rw [Int.toNat_natCast, Nat.mul_one, addr_add, Nat.zero_add]
          exact loads1 (by kernel_rfl) hc
        refine ⟨⟨by omega, by omega⟩, (((l[a + j]'hjl).toNat : Nat) : Int), hld, exW ⟨by omega, by omega⟩ (exW8 ⟨by omega, by omega⟩ (exW ⟨by omega, by omega⟩ (exW ⟨by omega, by omega⟩ (exW ⟨by omega, by omega⟩ ⟨⟨j + 1, rfl, by omega, rfl, ?_⟩, ?_⟩))))⟩
        · rw [<- Nat.add_assoc, take_drop_snoc (by omega) hjl, digV_snoc]; omega
        · show i - a - ((j : Int) + 1).toNat < i - a - (j : Int).toNat
          omega
      · have hji2 : a + j = i := by omega
        rw [hji2]
        intro r1 w2 hn2
        have hb := take_drop_lt (a := a) (i := i) hall (by omega)
        obtain ⟨p', c', w3, g1, g2, g3⟩ := Own.push (hown.ext xb) (Nat.le_trans hx.le xb.le) hn2 (by omega)
        refine ⟨_, _, _, _, g1, exW ⟨by omega, by omega⟩ ⟨⟨o ++ [((digV ((l.take i).drop a) : Nat) : Int)], by omega, by omega, by omega, g2, g3 w1 (hx.trans xb) (Nat.le_refl _), hlo.snoc ⟨by omega, by omega⟩, by simp [hol], ?_⟩, by show ((i : Int) - 9 + 9).toNat < ((i : Int) + 9).toNat; omega⟩⟩
        rw [ha]
        rw [Int.toNat_natCast] at hv
        exact chunk_val (by omega) (by omega) hol hv
    · have e0 : e.toNat = 0 := by omega
      rw [e0, List.drop_zero] at hv
      refine Ret.at (impl_trim_c hown.ints) ?_
      rintro v w2 ⟨hv2, hw2, hr⟩
      subst hv2; subst hw2
      refine ⟨_, _, _, rfl, _, _, _, rfl, ?_, hx⟩
      rw [if_pos rfl]
      have he := trimL_eq hlo
      rw [hv, Int.toNat_natCast] at he
      rw [<- he]
      have hle := trimL_len o
      have := hown.sub (m := (trimL o).length) (by omega)
      rwa [<- trimL_prefix] at this
  have hh : ∀ (h1 : 0 < l.length), l.head? = some (l[0]'h1) := fun h1 => by cases l with
    | nil => cases h1
    | cons _ _ => rfl
  rw [hl] at no go ⊢
  refine ⟨_, rfl, ifN (fun hd => ifT (ifT (no ?_))) (fun hd => ifD (fun h450 => ifT (no ?_)) (fun h450 => ?_))⟩
  · unfold digS at hd
    unfold numOk
    rw [hd]; rfl
  · unfold numOk
    rw [decide_eq_false (show ¬ l.length <= 450 by omega)]
    simp
  · have h0 : 0 < l.length := by
      cases l with
      | nil => cases hd
      | cons _ _ => exact Nat.succ_pos _
    unfold digS at hd
    refine ⟨by omega, l[0]'h0, by subst hl; exact ba_get (i := 0) h0, ifD (fun h48 => ifD (fun h1 => no ?_) (fun h1 => go ?_)) (fun h48 => ifF (go ?_))⟩
    · have : l[0]'h0 = 48 := UInt8.toNat_inj.1 (by show _ = 48; omega)
      unfold numOk
      rw [hh h0, this, decide_eq_true (show 1 < l.length by omega)]
      simp
    · unfold numOk
      rw [hd, decide_eq_true (show l.length <= 450 by omega), decide_eq_false (show ¬ 1 < l.length by omega)]
      rfl
    · unfold numOk
      have : l[0]'h0 ≠ 48 := fun hc => h48 (by rw [hc]; rfl)
      rw [hd, hh h0, decide_eq_true (show l.length <= 450 by omega)]
      simp [this]
end Go.Proofs.YtgbknjdjbahdkaaGreatDoor
namespace Go.Proofs.YtgbknjdjbahdkaaGreatDoor
open Go Go.Proofs.YtgbknjdjbahdkaaGreatDoor.Sx
theorem strip_one {l : List UInt8} (h : l.length <= 1) : strip l = l := by
  match l, h with
  | [], _ => rfl
  | [_], _ => rfl
theorem byte_eq {c d : UInt8} : (((c.toNat : Nat) : Int) = ((d.toNat : Nat) : Int)) ↔ c = d := by
  rw [<- UInt8.toNat_inj]; omega
end Go.Proofs.YtgbknjdjbahdkaaGreatDoor
namespace Go.Proofs.YtgbknjdjbahdkaaGreatDoor
open Go Go.Proofs.YtgbknjdjbahdkaaGreatDoor.Sx
def dgI (l : List UInt8) : List UInt8 := if l.head? = some 45 then l.drop 1 else l
def partsI (l : List UInt8) : List (List UInt8) := cuts 46 [] (dgI l)
def scI (l : List UInt8) : Nat := if (partsI l).length = 2 then ((partsI l).getD 1 []).length else 0
def whI (l : List UInt8) : List UInt8 := strip ((dgI l).filter (fun x => x != 46))
def candI (l : List UInt8) : List D0 := [.bool (decide (l.head? = some 45) && !(digs (digV (whI l))).isEmpty), .ints (digs (digV (whI l))), .int (scI l : Nat)]
def okI (l : List UInt8) : Bool := decide ((partsI l).length <= 2) && decide ((dgI l).length <= 100) && numOk (whI l)
theorem filter_dig {D : List UInt8} (h : D.all isDig = true) : D.filter (fun x => x != 46) = D := by
  rw [List.filter_eq_self]
  intro c hc
  have := dig_ne (List.all_eq_true.1 h c hc)
  simp [this.1]
theorem filter_body {D : List UInt8} {s : Nat} (h : D.all isDig = true) : (body D s).filter (fun x => x != 46) = D := by
  unfold body
  split
  · exact filter_dig h
  · have h1 : (D.take (D.length - s)).all isDig = true := List.all_eq_true.2 fun c hc => List.all_eq_true.1 h c (List.mem_of_mem_take hc)
    have h2 : (D.drop (D.length - s)).all isDig = true := List.all_eq_true.2 fun c hc => List.all_eq_true.1 h c (List.mem_of_mem_drop hc)
    rw [List.filter_append, filter_dig h1]
    show _ ++ (D.drop (D.length - s)).filter (fun x => x != 46) = D
    rw [filter_dig h2, List.take_append_drop]
theorem cuts_body {D : List UInt8} {s : Nat} (h : D.all isDig = true) (hs : s < D.length) : (cuts 46 [] (body D s)).length <= 2 /\ (if (cuts 46 [] (body D s)).length = 2 then ((cuts 46 [] (body D s)).getD 1 []).length else 0) = s := by
  have h0 : ∀ c ∈ D, c ≠ 46 := fun c hc => (dig_ne (List.all_eq_true.1 h c hc)).1
  unfold body
  split
  · rename_i hz
    rw [cuts_none h0]
    exact ⟨by simp, by simp [hz]⟩
  · rw [cuts_dot (fun c hc => h0 c (List.mem_of_mem_take hc)), cuts_none (fun c hc => h0 c (List.mem_of_mem_drop hc))]
    refine ⟨by simp, ?_⟩
    simp
    omega
theorem readI_yes {s : ByteArray} (h : tdOk s = true) : okI s.data.toList = true /\ candI s.data.toList = cand s.data.toList /\ decT (candI s.data.toList) = s := by
  obtain ⟨l, hl⟩ : ∃ l, s.data.toList = l := ⟨_, rfl⟩
  unfold tdOk at h
  rw [hl] at h ⊢
  simp only [Bool.and_eq_true, decide_eq_true_eq] at h
  obtain ⟨hok, hT⟩ := h
  obtain ⟨m, t, k, hz, ht, ht30, hb, hm, hall, hlt, hle, e⟩ := decT_shape (b := decide (l.head? = some 45)) (z := digs (digV (strip (filt l)))) (s := (scaleG 0 l : Nat)) hok
  have e2 : l = (if decide (l.head? = some 45) = true then [45] else []) ++ body (List.replicate k 48 ++ Lib.decDigits m) t := by
    rw [<- e]
    show l = (decT (cand l)).data.toList
    rw [hT, hl]
  have hd : dgI l = body (List.replicate k 48 ++ Lib.decDigits m) t := by
    unfold dgI
    by_cases h45 : l.head? = some 45
    · rw [if_pos h45]
      rw [decide_eq_true h45, if_pos rfl] at e2
      rw [e2]; rfl
    · rw [if_neg h45]
      rw [decide_eq_false h45, if_neg (by decide), List.nil_append] at e2
      exact e2
  obtain ⟨c1, c2⟩ := cuts_body hall hlt
  have hw : whI l = Lib.decDigits m := by
    unfold whI
    rw [hd, filter_body hall, strip_zeros]
  have hc : candI l = cand l := by
    unfold candI cand scI partsI
    rw [hw, hd, c2, digV_dec, hz, ht, sgn_digs hb]
  refine ⟨?_, hc, by rw [hc]; exact hT⟩
  unfold okI partsI
  rw [hw, hd, decide_eq_true c1, decide_eq_true (Nat.le_trans (body_len) (by omega)), numOk_dec (by rw [List.length_append] at hle; omega)]
  rfl
theorem readI_ok {s : ByteArray} (h1 : okI s.data.toList = true) (h2 : decT (candI s.data.toList) = s) : tdOk s = true := by
  obtain ⟨l, hl⟩ : ∃ l, s.data.toList = l := ⟨_, rfl⟩
  rw [hl] at h1 h2
  have hd : decOk (candI l) = true := by
    cases e : decOk (candI l) with
    | true => rfl
    | false =>
      have h3 : decT (candI l) = S [] := by
        show (if decOk (candI l) then _ else S []) = _
        rw [e]
        rfl
      rw [h2] at h3
      have h4 : l = [] := by rw [<- hl, h3]
      subst h4
      exact absurd h1 (by decide)
  have h3 := (cand_decT (d := candI l) rfl hd).1
  rw [h2, hl] at h3
  unfold tdOk
  rw [hl, h3, hd, decide_eq_true h2]; rfl
end Go.Proofs.YtgbknjdjbahdkaaGreatDoor
namespace Go.Proofs.YtgbknjdjbahdkaaGreatDoor
open Go Go.Proofs.YtgbknjdjbahdkaaGreatDoor.Sx
def StrsR (w : World) (p : Option Addr) (n c : Nat) (l : List ByteArray) : Prop :=
 l.length = n /\ n <= c /\ c <= 9223372036854775807 /\ (0 < n -> ∃ b off, p = some ⟨b, off, none⟩ /\ Seg w b off (l.map Value.string))
theorem StrsR.ext {w w' : World} {p : Option Addr} {n c : Nat} {l : List ByteArray} (h : StrsR w p n c l) (he : Ext w w') : StrsR w' p n c l :=
  ⟨h.1, h.2.1, h.2.2.1, fun hn => let ⟨b, off, hp, hs⟩ := h.2.2.2 hn; ⟨b, off, hp, hs.ext he⟩⟩
theorem StrsR.at {P : Program} {w : World} {p : Option Addr} {n c k : Nat} {l : List ByteArray} (h : StrsR w p n c l) {t : TypeId} (ht : cellT P t = true) (hk : k < n) :
    ∃ a, p = some a /\ Loads P t (a.add (k * 1)) (.string (l[k]'(by rw [h.1]; exact hk))) w := by
  obtain ⟨b, off, hp, hs⟩ := h.2.2.2 (by omega)
  refine ⟨_, hp, ?_⟩
  rw [Nat.mul_one]
  exact hs.load ht (by simp [List.getElem?_eq_getElem (by rw [h.1]; exact hk : k < l.length)])
theorem own_strs {w : World} {base : Nat} {e : TypeId} {p : Option Addr} {n c : Nat} {l : List ByteArray} (h : Own w base e 1 p n c (l.map Value.string)) : StrsR w p n c l :=
  ⟨by simpa using h.len, h.le, h.capLe, fun hn => let ⟨b, hp, _, hs⟩ := h.seg hn; ⟨b, 0, hp, hs⟩⟩
theorem sliceT_string : sliceT P T_s_string T_string (.string ByteArray.empty) 1 16 := ⟨by kernel_rfl, by kernel_rfl, rfl, by decide⟩
def joinT (by' : ByteArray) (l : List ByteArray) : ByteArray := ⟨(Lib.join (l.map (·.data.toList)) by'.data.toList).toArray⟩
theorem joinT_nil (b : ByteArray) : joinT b [] = ByteArray.empty := rfl
theorem joinT_one (b x : ByteArray) : joinT b [x] = x := ba_ext (by simp [joinT, Lib.join_one])
theorem joinT_snoc {b x : ByteArray} : ∀ {l : List ByteArray}, l ≠ [] -> joinT b (l ++ [x]) = (joinT b l ++ b) ++ x
  | [], h => absurd rfl h
  | y :: r, _ => ba_ext (by simp [joinT, Lib.join_cons, Lib.joinTail])
theorem joinT_size {b : ByteArray} {k : Nat} : ∀ {l : List ByteArray}, (∀ x ∈ l, x.size <= k) -> (joinT b l).size <= l.length * (k + b.size) := by
  intro l
  have key : ∀ (n : Nat) (l : List ByteArray), l.length = n -> (∀ x ∈ l, x.size <= k) -> (joinT b l).size <= l.length * (k + b.size) := by
    intro n
    induction n with
    | zero =>
      intro l hl _
      rw [List.eq_nil_of_length_eq_zero hl, joinT_nil]
      show 0 <= _
      omega
    | succ n ih =>
      intro l hl hx
      have hne : l ≠ [] := by intro e; rw [e] at hl; simp at hl
      have hl2 := List.dropLast_concat_getLast hne
      have hd : l.dropLast.length = n := by simp [hl]
      have h1 := ih l.dropLast hd fun x hx' => hx x ((List.dropLast_sublist l).subset hx')
      have h2 := hx _ (List.getLast_mem hne)
      by_cases h0 : l.dropLast = []
      · rw [h0, List.nil_append] at hl2
        rw [<- hl2, joinT_one]
        simp only [List.length_cons, List.length_nil]
        omega
      · rw [<- hl2, joinT_snoc h0, ByteArray.size_append, ByteArray.size_append, List.length_append, List.length_singleton, hd]
        rw [hd] at h1
        rw [Nat.succ_mul]
        omega
  exact key _ l rfl
theorem X156 : Go.Proofs.Builder.Extra P ren156 where
  sizeBuilder := by kernel_rfl
  liesBuilder := by kernel_rfl
  t5 := lays105.t5
  a5 := lays105.a5
  z5 := lays105.z5
  v5 := lays105.v5
  infoByte := by kernel_rfl
  cellsByte := by kernel_rfl
  sizeByte := by kernel_rfl
  neB5 := by decide
theorem impl_Join_c {w : World} {p : Option Addr} {n c : Nat} {l : List ByteArray} (h : StrsR w p n c l) (b : ByteArray) {k : Nat} (hk : ∀ x ∈ l, x.size <= k) (hb : n * (k + b.size) <= 140737488355328) (hn : n <= 140737488355328) :
    Ret P n_impl_Join [.slice p n c, .string b] w fun v w' => v = .string (joinT b l) /\ Ext w w' := by
  refine impl_Join_ret ?_
  unfold impl_Join
  have hz := h.1; have hcap := h.2.1
  have hsz := joinT_size (b := b) hk
  rw [hz] at hsz
  have hlen : (Lib.join (l.map (·.data.toList)) b.data.toList).length <= 140737488355328 := by
    have : (joinT b l).size = (Lib.join (l.map (·.data.toList)) b.data.toList).length := by simp [joinT, ByteArray.size]
    omega
  rcases Nat.eq_zero_or_pos n with h0 | h0
  · subst h0
    have : l = [] := List.eq_nil_of_length_eq_zero hz
    subst this
    refine (Any.strings_Join_none lays156 X156 p c b w).mono ?_
    rintro e w' ⟨rfl, rfl⟩
    exact ⟨_, rfl, rfl, Ext.refl _⟩
  · obtain ⟨r, o, rfl, hs⟩ := h.2.2.2 h0
    have hcells : ∀ (j : Nat) x, l[j]? = some x -> w.cell? ⟨r, o + j, none⟩ = some (.string x) := fun j x hx => hs j _ (by simp [hx])
    have hbk : r < w.heap.size := World.block_lt_of_cell? w _ (hcells 0 _ (List.getElem?_eq_getElem (by omega)))
    have := Any.strings_Join lays156 X156 r o c l b w hcells hbk (by omega) (by omega) hlen
    rw [hz] at this
    refine this.mono ?_
    rintro e w' ⟨rfl, hx⟩
    exact ⟨_, rfl, rfl, hx⟩
end Go.Proofs.YtgbknjdjbahdkaaGreatDoor
namespace Go.Proofs.YtgbknjdjbahdkaaGreatDoor
open Go Go.Shelf
def ren137 : Ren := ⟨fun x => match x with | 137 => 82 | 217 => 119 | 266 => 149 | n => n, fun x => match x with | 9 => 9 | 5 => 5 | 3 => 3 | n => n, fun x => x⟩
theorem lays137 : Lays.n137 Tryz.prog ren137 := {
  mixed := by kernel_rfl,
  f137 := Tryz.func82.trans (congrArg some (by kernel_rfl)),
  f217 := Tryz.func119.trans (congrArg some (by kernel_rfl)),
  f266 := Tryz.func149.trans (congrArg some (by kernel_rfl)),
  t3 := Tryz.underlying3,
  a3 := Tryz.isAgg3,
  z3 := Tryz.sizeOf3,
  v3 := Tryz.zeroValue3,
  t5 := Tryz.underlying5,
  a5 := Tryz.isAgg5,
  z5 := Tryz.sizeOf5,
  v5 := Tryz.zeroValue5,
  t9 := Tryz.underlying9,
  a9 := Tryz.isAgg9,
  z9 := Tryz.sizeOf9,
  v9 := Tryz.zeroValue9 }
end Go.Proofs.YtgbknjdjbahdkaaGreatDoor
namespace Go.Proofs.YtgbknjdjbahdkaaGreatDoor
open Go Go.Proofs.YtgbknjdjbahdkaaGreatDoor.Sx
theorem sliceT_cut : sliceT P T_s_string T_string (.string ByteArray.empty) 1 16 := ⟨by kernel_rfl, by kernel_rfl, rfl, by decide⟩
theorem index_one (c x : UInt8) : decide ((0 : Int) <= Lib.indexByte [c] x) = decide (x = c) := by
  unfold Lib.indexByte
  by_cases h : c = x
  · subst h; simp
  · have h2 : x ≠ c := fun e => h e.symm
    simp [h, h2, Lib.indexByte]
theorem impl_CutAt_o {w : World} (s : ByteArray) (c : UInt8) (hs : s.size <= 1048576) : Ret P n_impl_CutAt [.string s, .string ⟨#[c]⟩] w fun v w' => ∃ (p : Option Addr) (n k : Nat) (ps : List ByteArray), v = .slice p n k /\ Own w' w.heap.size T_string 1 p n k (ps.map Value.string) /\ ps.map (·.data.toList) = cuts c [] s.data.toList /\ Ext w w' := by
  obtain ⟨l, hl⟩ : ∃ l, s.data.toList = l := ⟨_, rfl⟩
  have hsl : s.size = l.length := by rw [ba_size, hl]
  refine impl_CutAt_ret ?_
  unfold impl_CutAt
  intro r w1 hn1
  obtain ⟨Inv, hI⟩ : ∃ I : Option Addr -> Nat -> Nat -> Int -> Int -> World -> Prop, ∀ p n k a i W, I p n k a i W ↔ ∃ (j b : Nat) (ps : List ByteArray), i = j /\ j <= l.length /\ a = b /\ b <= j /\ n <= j /\ Own W w.heap.size T_string 1 p n k (ps.map Value.string) /\ Ext w W /\ ps.map (·.data.toList) ++ cuts c ((l.take j).drop b) (l.drop j) = cuts c [] l := ⟨_, fun _ _ _ _ _ _ => Iff.rfl⟩
  obtain ⟨mu, hmu⟩ : ∃ m : Option Addr -> Nat -> Nat -> Int -> Int -> World -> Nat, ∀ p n k a i W, m p n k a i W = l.length - i.toNat := ⟨fun _ _ _ _ i _ => l.length - i.toNat, fun _ _ _ _ _ _ => rfl⟩
  have e1 := hn1.r_eq
  refine ⟨Inv, mu, (hI _ _ _ _ _ _).2 ⟨0, 0, [], rfl, by omega, rfl, by omega, by omega, Own.of_blk0 hn1.blk (by omega) (by simp) (by decide), hn1.ext, rfl⟩, ?_⟩
  intro junk wr p n k a i hinv
  obtain ⟨j, b, ps, hij, hj, hab, hbj, hnj, ho, hx, hcut⟩ := (hI _ _ _ _ _ _).1 hinv
  subst hij; subst hab
  have lx := hx.le
  have ext : ∀ (b2 j2 : Nat), (s.extract b2 j2).data.toList = (l.take j2).drop b2 := fun b2 j2 => by
    rw [ByteArray.data_extract, Array.toList_extract, hl, List.extract_eq_take_drop, List.drop_take]
  refine ifD (fun hlt => ?_) (fun hge => ?_)
  · have hjl : j < l.length := by omega
    have hdr : l.drop j = l[j]'hjl :: l.drop (j + 1) := List.drop_eq_getElem_cons hjl
    rw [hdr, cuts] at hcut
    refine ⟨by omega, l[j]'hjl, by subst hl; exact ba_get hjl, ?_⟩
    refine (Any.strings_IndexByte lays137 ⟨#[c]⟩ _ wr).mono ?_
    rintro e w2 ⟨rfl, rfl⟩
    have i1 := index_one c (l[j]'hjl)
    have next : ∀ (p2 : Option Addr) (n2 k2 b2 : Nat) (ps2 : List ByteArray) (W : World), b2 <= j + 1 -> n2 <= j + 1 -> Own W w.heap.size T_string 1 p2 n2 k2 (ps2.map Value.string) -> Ext w W -> ps2.map (·.data.toList) ++ cuts c ((l.take (j + 1)).drop b2) (l.drop (j + 1)) = cuts c [] l -> ∀ R, impl_CutAt_j0 w2 Inv mu p n k (b : Int) (j : Int) p2 n2 k2 (b2 : Int) W R := by
      intro p2 n2 k2 b2 ps2 W h1 h2 h3 h4 h5 R
      unfold impl_CutAt_j0
      exact exW ⟨by omega, by omega⟩ ⟨(hI _ _ _ _ _ _).2 ⟨j + 1, b2, ps2, rfl, by omega, rfl, h1, h2, h3, h4, h5⟩, by rw [hmu, hmu]; omega⟩
    have h8 : (((l[j]'hjl).toNat : Nat) : Int).toNat.toUInt8 = l[j]'hjl := by rw [Int.toNat_natCast]; exact UInt8.ofNat_toNat
    rw [h8]
    refine ⟨_, rfl, fun hy => ?_, fun hn => ?_⟩
    · have hc : l[j]'hjl = c := of_decide_eq_true (i1.symm.trans hy)
      rw [if_pos hc] at hcut
      refine ⟨⟨by omega, by omega⟩, ⟨by omega, by omega⟩, ?_⟩
      intro r1 w3 hn3
      have l3 := hn3.ext.le
      obtain ⟨p', k', w4, ha, ho4, ch, _⟩ := (ho.ext hn3.ext).push1 (P := P) sliceT_cut (by omega) hn3.blk rfl (by simp [Value.oneCell']) (by omega) (by decide)
      refine ⟨p', _, k', w4, ha, exW ⟨by omega, by omega⟩ ?_⟩
      have := next p' (n + 1) k' (j + 1) (ps ++ [s.extract b j]) w4 (by omega) (by omega) (by rw [List.map_append]; exact ho4) ((hx.trans hn3.ext).chg ch fun q hq => (World.ownsRow.lt ho q (by cases p <;> simp_all [Value.ownBlock])).1) (by
        rw [List.map_append, List.append_assoc, <- hcut, List.drop_take_self]
        show _ ++ ([(s.extract b j).data.toList] ++ _) = _
        rw [ext]; rfl)
      exact this _
    · have hc : l[j]'hjl ≠ c := of_decide_eq_false (i1.symm.trans hn)
      rw [if_neg hc, <- take_drop_snoc hbj hjl] at hcut
      exact next p n k b ps _ (by omega) (by omega) ho hx hcut _
  · have hjn : j = l.length := by omega
    rw [hjn, List.drop_length, cuts] at hcut
    refine ⟨⟨by omega, by omega⟩, ?_⟩
    intro r1 w3 hn3
    have l3 := hn3.ext.le
    obtain ⟨p', k', w4, ha, ho4, ch, _⟩ := (ho.ext hn3.ext).push1 (P := P) sliceT_cut (by omega) hn3.blk rfl (by simp [Value.oneCell']) (by omega) (by decide)
    refine ⟨p', _, k', w4, ha, p', n + 1, k', ps ++ [s.extract b s.size], rfl, by rw [List.map_append]; exact ho4, ?_, (hx.trans hn3.ext).chg ch fun q hq => (World.ownsRow.lt ho q (by cases p <;> simp_all [Value.ownBlock])).1⟩
    rw [List.map_append, hl, <- hcut]
    show _ ++ [(s.extract b s.size).data.toList] = _
    rw [ext, hsl]
theorem impl_CutAt_c {w : World} (s : ByteArray) (c : UInt8) (hs : s.size <= 1048576) : Ret P n_impl_CutAt [.string s, .string ⟨#[c]⟩] w fun v w' => ∃ p n k ps, v = .slice p n k /\ StrsR w' p n k ps /\ ps.map (·.data.toList) = cuts c [] s.data.toList /\ Ext w w' :=
  (impl_CutAt_o s c hs).mono fun v w' ⟨p, n, k, ps, h1, h2, h3, h4⟩ => ⟨p, n, k, ps, h1, own_strs h2, h3, h4⟩
end Go.Proofs.YtgbknjdjbahdkaaGreatDoor
namespace Go.Proofs.YtgbknjdjbahdkaaGreatDoor
open Go Go.Proofs.YtgbknjdjbahdkaaGreatDoor.Sx
theorem own_dec0 (W : World) (B : Nat) : Owns W B [.bool false, .slice none 0 0, .int .i64 0] zeroDec [] :=
  Owns.append (Owns.bool _ _ false) (Owns.append (Owns.ints (zs := []) (Own.nil W B T_int 1)) (Owns.int _ _ 0))
theorem okI_eq (l : List UInt8) : okI l = (decide ((partsI l).length <= 2) && decide ((dgI l).length <= 100) && numOk (whI l)) := rfl
theorem le_sum_of_mem {x : Nat} : ∀ {l : List Nat}, x ∈ l -> x <= l.sum
  | a :: r, h => by
    rw [List.sum_cons]
    rcases List.mem_cons.1 h with e | e
    · omega
    · have := le_sum_of_mem e; omega
theorem joinTail_nil : ∀ l : List (List UInt8), Lib.joinTail [] l = l.flatten
  | [] => rfl
  | a :: r => by simp [Lib.joinTail, joinTail_nil r]
theorem joinT_flat : ∀ ps : List ByteArray, (joinT (S []) ps).data.toList = (ps.map (·.data.toList)).flatten
  | [] => rfl
  | a :: r => by
    have := joinTail_nil (r.map (·.data.toList))
    simp [joinT, Lib.join_cons, this]
theorem impl_TextDec_o {w : World} (s : ByteArray) (hs : s.size <= 1048576) (hp : TabP w) : Ret P n_impl_TextDec [.string s] w fun v w' => ∃ vs f, v = .tuple #[.agg ⟨vs⟩, .bool (tdOk s)] /\ Owns w' w.heap.size vs (if tdOk s then cand s.data.toList else zeroDec) f /\ f.Nodup /\ Ext w w' := by
  obtain ⟨l, hl⟩ : ∃ l, s.data.toList = l := ⟨_, rfl⟩
  have hsl : s.size = l.length := by rw [ba_size, hl]
  refine impl_TextDec_ret ?_
  unfold impl_TextDec
  intro r w1 hn1
  have e1 := hn1.r_eq; have z1 := hn1.size
  have zero : ∀ W, Ext w W -> Blk W r T_impl_Dec [.bool false, .slice none 0 0, .int .i64 0] -> tdOk s = false -> ∃ wv_7, Stores P T_impl_Dec ⟨r, 0, none⟩ (.agg #[(.bool false), (.slice none 0 0), (.int .i64 0)]) W wv_7 /\
      ∃ (r0 : Bool) (r1_p : Option Addr) (r1_n : Nat) (r1_c : Nat) (r2 : Int), Loads P T_impl_Dec ⟨r, 0, none⟩ (.agg #[(.bool r0), (.slice r1_p r1_n r1_c), (.int .i64 r2)]) wv_7 /\ ∃ vs f, (Value.tuple #[(.agg #[(.bool r0), (.slice r1_p r1_n r1_c), (.int .i64 r2)]), (.bool false)]) = .tuple #[.agg ⟨vs⟩, .bool (tdOk s)] /\ Owns wv_7 w.heap.size vs (if tdOk s then cand s.data.toList else zeroDec) f /\ f.Nodup /\ Ext w wv_7 := by
    intro W hW hb hno
    obtain ⟨w6, st6, hb6, ch, sz⟩ := hb.storeA0 (P := P) (t := T_impl_Dec) (xs := [.bool false, .slice none 0 0, .int .i64 0]) (by kernel_rfl) rfl (by simp [Value.oneCell'])
    refine ⟨w6, st6, _, _, _, _, _, hb6.loadA0 (by kernel_rfl), [.bool false, .slice none 0 0, .int .i64 0], [], by rw [hno], ?_, List.nodup_nil, hW.chg ch (by simp; omega)⟩
    rw [hno]
    exact own_dec0 _ _
  -- the digits behind the sign are cut, joined, read
  have main : ∀ (dg : ByteArray), dg.data.toList = dgI l -> impl_TextDec_j1 s r (decide (l.head? = some 45)) dg w1 fun v w' => ∃ vs f, v = .tuple #[.agg ⟨vs⟩, .bool (tdOk s)] /\ Owns w' w.heap.size vs (if tdOk s then cand s.data.toList else zeroDec) f /\ f.Nodup /\ Ext w w' := by
    intro dg hdg
    have hdl : dg.size <= s.size := by
      rw [ba_size, hdg, hsl]
      unfold dgI
      split
      · rw [List.length_drop]; omega
      · omega
    unfold impl_TextDec_j1
    refine Ret.at (impl_CutAt_c dg 46 (by omega)) ?_
    rintro v w2 ⟨p, n, k, ps, hv, hps, hcut, y2⟩
    subst hv
    have X2 := hn1.ext.trans y2
    rw [hdg] at hcut
    have hn := hps.1
    have hpl : ps.length = (partsI l).length := by
      unfold partsI
      rw [<- hcut, List.length_map]
    have no : okI l = false -> tdOk s = false := fun h => by
      cases htd : tdOk s with
      | false => rfl
      | true =>
        have := (readI_yes htd).1
        rw [hl, h] at this
        cases this
    have l2 := y2.le
    refine ⟨_, _, _, rfl, ?_⟩
    refine ifD (fun h2 => ifT (zero w2 X2 (hn1.blk.ext y2) (no (by rw [okI_eq, decide_eq_false (show ¬ (partsI l).length <= 2 by omega)]; simp)))) (fun h2 => ifD (fun h100 => zero w2 X2 (hn1.blk.ext y2) (no (by rw [okI_eq, decide_eq_false (show ¬ (dgI l).length <= 100 by rw [<- hdg, <- ba_size]; omega)]; simp))) (fun h100 => ?_))
    have hparts : decide ((partsI l).length <= 2) = true := decide_eq_true (by omega)
    have hdgl : (dgI l).length <= 100 := by rw [<- hdg, <- ba_size]; omega
    have hlen : decide ((dgI l).length <= 100) = true := decide_eq_true hdgl
    have hsize : ∀ x ∈ ps, x.size <= 100 := fun x hx => by
      have h1 : x.data.toList ∈ cuts 46 [] (dgI l) := by rw [<- hcut]; exact List.mem_map.2 ⟨x, hx, rfl⟩
      have h3 := cuts_flat (c := 46) (dgI l) []
      have h4 : x.data.toList.length <= (cuts 46 [] (dgI l)).flatten.length := by
        rw [List.length_flatten]
        exact le_sum_of_mem (List.mem_map.2 ⟨_, h1, rfl⟩)
      rw [h3, List.nil_append] at h4
      have h5 := List.length_filter_le (fun x => x != 46) (dgI l)
      rw [ba_size]; omega
    have main3 : ∀ sc : Int, sc = ((scI l : Nat) : Int) -> impl_TextDec_j3 s r (decide (l.head? = some 45)) p n k sc w2 fun v w' => ∃ vs f, v = .tuple #[.agg ⟨vs⟩, .bool (tdOk s)] /\ Owns w' w.heap.size vs (if tdOk s then cand s.data.toList else zeroDec) f /\ f.Nodup /\ Ext w w' := by
      intro sc hsc
      subst hsc
      unfold impl_TextDec_j3
      refine Ret.at (impl_Join_c hps (S []) (k := 100) hsize (by have : (S []).size = 0 := rfl; rw [this]; omega) (by omega)) ?_
      rintro v w3 ⟨hv, y3⟩
      subst hv
      have X3 := X2.trans y3
      have ly3 := y3.le; have lz1 := hn1.blk.lt
      have hjd : (joinT (S []) ps).data.toList = (dgI l).filter (fun x => x != 46) := by
        rw [joinT_flat, hcut, cuts_flat, List.nil_append]
      have hjl : (joinT (S []) ps).size <= 100 := by
        rw [ba_size, hjd]
        have := List.length_filter_le (fun x => x != 46) (dgI l)
        omega
      refine ⟨_, rfl, fun dg2 W => strip dg2.data.toList = whI l /\ dg2.size <= 100 /\ W = w3, fun dg2 _ => dg2.size, ⟨by rw [hjd]; rfl, hjl, rfl⟩, ?_⟩
      intro junk W whole ⟨hst, hsz, hW⟩
      rw [hW]
      have hgl : whole.size = whole.data.toList.length := ba_size whole
      refine ifD (fun h1 => ?_) (fun h1 => ifF ?_)
      · have h0 : 0 < whole.data.toList.length := by omega
        obtain ⟨a, b, r2, hlist⟩ : ∃ a b r2, whole.data.toList = a :: b :: r2 := by
          match h : whole.data.toList, h0, hgl with
          | [], h0, _ => cases h0
          | [a], _, hgl => simp at hgl; omega
          | a :: b :: r2, _, _ => exact ⟨a, b, r2, rfl⟩
        refine ⟨by omega, whole.data.toList[0]'h0, ba_get (i := 0) h0, ifD (fun h48 => ?_) (fun h48 => ?_)⟩
        · have hc : whole.data.toList[0]'h0 = 48 := byte_eq.1 h48
          have hex : (whole.extract 1 whole.size).data.toList = whole.data.toList.drop 1 := by
            rw [ByteArray.data_extract, Array.toList_extract, List.extract_eq_take_drop, List.take_of_length_le (by rw [List.length_drop]; omega)]
          have hes : (whole.extract 1 whole.size).size = whole.size - 1 := by rw [ba_size, hex, List.length_drop, hgl]
          refine ⟨⟨by omega, by omega⟩, ⟨?_, by omega, rfl⟩, by show (whole.extract 1 whole.size).size < whole.size; omega⟩
          rw [hex, <- hst]
          have ha : a = 48 := by rw [<- hc]; simp [hlist]
          rw [hlist, ha, strip, if_pos rfl]
          rfl
        have hdone : whole.data.toList = whI l := by
          rw [<- hst]
          have ha : a ≠ 48 := fun ha => h48 (by
            have : whole.data.toList[0]'h0 = 48 := by simp [hlist, ha]
            rw [this]; rfl)
          rw [hlist, strip, if_neg ha]
        refine Ret.at (impl_TextNat_o whole (by omega)) ?_
        rintro v w5 ⟨pm, nm, cm, hv, him, y5⟩
        subst hv
        rw [hdone] at him ⊢
        refine ⟨_, _, _, _, rfl, ?_⟩
        refine Ret.at (impl_signed_c (neg := decide (l.head? = some 45)) him.ints.1) ?_
        rintro v w6 ⟨hv, y6⟩
        subst hv
        refine ⟨_, _, _, _, rfl, ?_⟩
        intro r1 w7 hn7
        have e7 := hn7.r_eq
        obtain ⟨w8, st8, hb8, y8⟩ := hn7.fill (P := P) (t := T_impl_Dec) (xs := [.bool (decide (l.head? = some 45) && !(if numOk (whI l) then digs (digV (whI l)) else []).isEmpty), .slice pm nm cm, .int .i64 ((scI l : Nat) : Int)]) (by simp [Value.oneCell']) (by kernel_rfl) rfl
        have Y8 := (y5.trans y6).trans y8
        have X8 := X3.trans Y8
        have l5 := y5.le; have l6 := y6.le; have l3 := X3.le
        refine ⟨w8, st8, ifN (fun hno => ifT (zero w8 X8 (hn1.blk.ext ((y2.trans y3).trans Y8)) (no (by rw [okI_eq, hno, Bool.and_false])))) (fun hyes => ?_)⟩
        rw [hyes, if_pos rfl] at him hb8
        have hrep : Reps w8 [.bool (decide (l.head? = some 45) && !(digs (digV (whI l))).isEmpty), .slice pm nm cm, .int .i64 ((scI l : Nat) : Int)] (candI l) := ⟨rfl, ⟨_, _, _, rfl, him.ints.ext (y6.trans y8)⟩, rfl, trivial⟩
        have hokI : okI l = true := by rw [okI_eq, hparts, hlen, hyes]; rfl
        refine ⟨_, _, _, _, _, hb8.loadA0 (by kernel_rfl), ?_⟩
        refine Ret.at (impl_DecText_c hrep rfl (hp.ext X8)) ?_
        rintro v w9 ⟨hv, y9⟩
        subst hv
        have X9 := X8.trans y9
        refine ⟨_, rfl, ifD (fun hne => zero w9 X9 (hn1.blk.ext (((y2.trans y3).trans Y8).trans y9)) ?_) (fun heq => ?_)⟩
        · cases htd : tdOk s with
          | false => rfl
          | true =>
            have := (readI_yes htd).2.2
            rw [hl] at this
            exact absurd this hne
        · have heq : decT (candI l) = s := by simpa using heq
          have hyes2 : tdOk s = true := readI_ok (by rw [hl]; exact hokI) (by rw [hl]; exact heq)
          have hcand := (readI_yes hyes2).2.1
          rw [hl] at hcand
          obtain ⟨w10, st10, hb10, ch10, sz10⟩ := (hn1.blk.ext (((y2.trans y3).trans Y8).trans y9)).storeA0 (P := P) (t := T_impl_Dec) (xs := [.bool (decide (l.head? = some 45) && !(digs (digV (whI l))).isEmpty), .slice pm nm cm, .int .i64 ((scI l : Nat) : Int)]) (by kernel_rfl) rfl (by simp [Value.oneCell'])
          refine ⟨_, _, _, _, _, (hb8.ext y9).loadA0 (by kernel_rfl), w10, st10, _, _, _, _, _, hb10.loadA0 (by kernel_rfl), [.bool (decide (l.head? = some 45) && !(digs (digV (whI l))).isEmpty), .slice pm nm cm, .int .i64 ((scI l : Nat) : Int)], (pm.map (·.block)).toList, by rw [hyes2], ?_, nodup_opt pm, X9.chg ch10 (by simp; omega)⟩
          rw [hyes2, if_pos rfl, hl, <- hcand]
          have ho1 := ((him.ext (y6.trans y8)).ext y9).mono (base' := r + 1) (by omega)
          have ho2 : Owns w9 (r + 1) [.bool (decide (l.head? = some 45) && !(digs (digV (whI l))).isEmpty), .slice pm nm cm, .int .i64 ((scI l : Nat) : Int)] (candI l) ((pm.map (·.block)).toList) := by
            have := Owns.append (Owns.int2 (b := decide (l.head? = some 45) && !(digs (digV (whI l))).isEmpty) ho1) (Owns.int w9 (r + 1) ((scI l : Nat) : Int))
            rwa [List.append_nil] at this
          exact (ho2.chg1 ch10 (by omega)).mono (by omega)
      · have hdone : whole.data.toList = whI l := by rw [<- hst, strip_one (by omega)]
        refine Ret.at (impl_TextNat_o whole (by omega)) ?_
        rintro v w5 ⟨pm, nm, cm, hv, him, y5⟩
        subst hv
        rw [hdone] at him ⊢
        refine ⟨_, _, _, _, rfl, ?_⟩
        refine Ret.at (impl_signed_c (neg := decide (l.head? = some 45)) him.ints.1) ?_
        rintro v w6 ⟨hv, y6⟩
        subst hv
        refine ⟨_, _, _, _, rfl, ?_⟩
        intro r1 w7 hn7
        have e7 := hn7.r_eq
        obtain ⟨w8, st8, hb8, y8⟩ := hn7.fill (P := P) (t := T_impl_Dec) (xs := [.bool (decide (l.head? = some 45) && !(if numOk (whI l) then digs (digV (whI l)) else []).isEmpty), .slice pm nm cm, .int .i64 ((scI l : Nat) : Int)]) (by simp [Value.oneCell']) (by kernel_rfl) rfl
        have Y8 := (y5.trans y6).trans y8
        have X8 := X3.trans Y8
        have l5 := y5.le; have l6 := y6.le; have l3 := X3.le
        refine ⟨w8, st8, ifN (fun hno => ifT (zero w8 X8 (hn1.blk.ext ((y2.trans y3).trans Y8)) (no (by rw [okI_eq, hno, Bool.and_false])))) (fun hyes => ?_)⟩
        rw [hyes, if_pos rfl] at him hb8
        have hrep : Reps w8 [.bool (decide (l.head? = some 45) && !(digs (digV (whI l))).isEmpty), .slice pm nm cm, .int .i64 ((scI l : Nat) : Int)] (candI l) := ⟨rfl, ⟨_, _, _, rfl, him.ints.ext (y6.trans y8)⟩, rfl, trivial⟩
        have hokI : okI l = true := by rw [okI_eq, hparts, hlen, hyes]; rfl
        refine ⟨_, _, _, _, _, hb8.loadA0 (by kernel_rfl), ?_⟩
        refine Ret.at (impl_DecText_c hrep rfl (hp.ext X8)) ?_
        rintro v w9 ⟨hv, y9⟩
        subst hv
        have X9 := X8.trans y9
        refine ⟨_, rfl, ifD (fun hne => zero w9 X9 (hn1.blk.ext (((y2.trans y3).trans Y8).trans y9)) ?_) (fun heq => ?_)⟩
        · cases htd : tdOk s with
          | false => rfl
          | true =>
            have := (readI_yes htd).2.2
            rw [hl] at this
            exact absurd this hne
        · have heq : decT (candI l) = s := by simpa using heq
          have hyes2 : tdOk s = true := readI_ok (by rw [hl]; exact hokI) (by rw [hl]; exact heq)
          have hcand := (readI_yes hyes2).2.1
          rw [hl] at hcand
          obtain ⟨w10, st10, hb10, ch10, sz10⟩ := (hn1.blk.ext (((y2.trans y3).trans Y8).trans y9)).storeA0 (P := P) (t := T_impl_Dec) (xs := [.bool (decide (l.head? = some 45) && !(digs (digV (whI l))).isEmpty), .slice pm nm cm, .int .i64 ((scI l : Nat) : Int)]) (by kernel_rfl) rfl (by simp [Value.oneCell'])
          refine ⟨_, _, _, _, _, (hb8.ext y9).loadA0 (by kernel_rfl), w10, st10, _, _, _, _, _, hb10.loadA0 (by kernel_rfl), [.bool (decide (l.head? = some 45) && !(digs (digV (whI l))).isEmpty), .slice pm nm cm, .int .i64 ((scI l : Nat) : Int)], (pm.map (·.block)).toList, by rw [hyes2], ?_, nodup_opt pm, X9.chg ch10 (by simp; omega)⟩
          rw [hyes2, if_pos rfl, hl, <- hcand]
          have ho1 := ((him.ext (y6.trans y8)).ext y9).mono (base' := r + 1) (by omega)
          have ho2 : Owns w9 (r + 1) [.bool (decide (l.head? = some 45) && !(digs (digV (whI l))).isEmpty), .slice pm nm cm, .int .i64 ((scI l : Nat) : Int)] (candI l) ((pm.map (·.block)).toList) := by
            have := Owns.append (Owns.int2 (b := decide (l.head? = some 45) && !(digs (digV (whI l))).isEmpty) ho1) (Owns.int w9 (r + 1) ((scI l : Nat) : Int))
            rwa [List.append_nil] at this
          exact (ho2.chg1 ch10 (by omega)).mono (by omega)
    unfold impl_TextDec_j2
    refine ifD (fun he2 => ?_) (fun hne2 => main3 0 ?_)
    · obtain ⟨a, hpa, hla⟩ := hps.at (P := P) (t := T_string) (k := 1) (by kernel_rfl) (by omega)
      subst hpa
      refine ⟨⟨by omega, by omega⟩, _, hla, main3 _ ?_⟩
      unfold scI
      rw [if_pos (by omega), <- List.getElem_eq_getD (h := by omega)]
      have : (partsI l)[1]'(by omega) = (ps[1]'(by omega)).data.toList := by
        unfold partsI
        simp only [<- hcut, List.getElem_map]
      rw [this, ba_size]
    · unfold scI
      rw [if_neg (by omega)]; rfl
  unfold impl_TextDec_j0
  rw [hl] at main
  rw [ne_empty, hl]
  have negEq : ∀ (h0 : 0 < l.length), decide ((((l[0]'h0).toNat : Nat) : Int) = 45) = decide (l.head? = some 45) := fun h0 => by
    cases l with
    | nil => cases h0
    | cons c r => exact decide_eq_decide.2 (by
        show ((c.toNat : Nat) : Int) = (((45 : UInt8).toNat : Nat) : Int) ↔ _
        rw [byte_eq]; simp)
  refine ifN (fun hne => ?_) (fun hemp => ?_)
  · have h0 : 0 < l.length := by
      cases l with
      | nil => cases hne
      | cons _ _ => exact Nat.succ_pos _
    refine ⟨by omega, l[0]'h0, by subst hl; exact ba_get (i := 0) h0, ?_⟩
    rw [negEq h0]
    refine ⟨fun h45 => ⟨⟨by omega, by omega⟩, main _ ?_⟩, fun h45 => main s ?_⟩
    · unfold dgI
      rw [if_pos (of_decide_eq_true h45), ByteArray.data_extract, Array.toList_extract, hl, List.extract_eq_take_drop, List.take_of_length_le (by rw [List.length_drop]; omega)]
    · unfold dgI
      rw [if_neg (of_decide_eq_false h45), hl]
  · have hl0 : l = [] := List.isEmpty_iff.1 hemp
    refine ifF ?_
    have := main s (by rw [hl, hl0]; rfl)
    rwa [show decide (l.head? = some 45) = false from by rw [hl0]; rfl] at this
end Go.Proofs.YtgbknjdjbahdkaaGreatDoor
namespace Go.Proofs.YtgbknjdjbahdkaaGreatDoor
open Go Go.Proofs.YtgbknjdjbahdkaaGreatDoor.Sx
def percentT : List D0 -> ByteArray
  | [.bool b, .ints z, .int s] => if taxOk [.bool b, .ints z, .int s] then decT (dnn (lowM ((val z).toNat * 100) s.toNat) (lowS ((val z).toNat * 100) s.toNat)) ++ S [37] else S []
  | _ => S []
theorem percentT_size (d : List D0) : (percentT d).size <= 200 := by
  unfold percentT
  split
  · split
    · have := decT_size (dnn (lowM ((val ‹List Int›).toNat * 100) (‹Int›).toNat) (lowS ((val ‹List Int›).toNat * 100) (‹Int›).toNat))
      rw [ByteArray.size_append]
      show _ + 1 <= _
      omega
    · show 0 <= _; omega
  · show 0 <= _; omega
theorem impl_Percent_c {w : World} {xs : List Value} {dx : List D0} (h : Reps w xs dx) (hc : dx.map D0.code = [.bool, .ints, .int]) (hp : TabP w) :
    Ret P n_impl_Percent [.agg ⟨xs⟩] w fun v w' => v = .string (percentT dx) /\ Ext w w' := by
  have hr := h
  obtain ⟨a0, ap, an, ac, az, a2, rfl, rfl, ha⟩ := open_Dec h hc
  refine impl_Percent_ret ?_
  unfold impl_Percent
  intro r w1 hn1
  refine ⟨_, _, _, _, _, hn1.blk.loadA0 (by kernel_rfl), ?_⟩
  refine Ret.at (impl_TaxRateOk_c (hr.ext hn1.ext) rfl) ?_
  rintro v w2 ⟨hv, y2⟩
  subst hv
  have X2 := hn1.ext.trans y2
  have bk := hn1.blk.ext y2
  refine ⟨_, rfl, ifN (fun e => ⟨by simp only [percentT, e, Bool.false_eq_true, if_false], X2⟩) (fun e => ?_)⟩
  have hgoal : percentT [.bool a0, .ints az, .int a2] = decT (dnn (lowM ((val az).toNat * 100) a2.toNat) (lowS ((val az).toNat * 100) a2.toNat)) ++ S [37] := by simp only [percentT, e, if_true]
  obtain ⟨m, t, rfl, rfl, rfl, ht, em, et, hm⟩ := taxOk_nn e
  rw [hgoal, em, et]
  have l1 := one_len hm; have l2 := hundred_len hm
  have h100 : (digs 100).length <= 1 := one_len (by decide)
  have lM : (digs (lowM (m * 100) t)).length <= 2 := Nat.le_trans (digs_mono_len (lowM_le _ _)) l2
  have hr2 : Reps w2 [.bool false, .slice ap an ac, .int .i64 (t : Int)] (dnn m t) := hr.ext X2
  have fin : ∀ q, decT q = decT q := fun _ => rfl
  have D := Ext.drew w2
  have q0 := bk.ext D
  refine ⟨_, _, _, _, _, fun W hW => (q0.ext hW).loadA0 (by kernel_rfl), ?_⟩
  intro ss w3 f1
  refine Ret.at (impl_IntOf_c (n := 100) (by omega) (by omega)) ?_
  rintro v w4 ⟨vs4, f4, hv, ho4, _, y4⟩
  subst hv
  have e100 : enc 100 = [.bool false, .ints (digs 100)] := enc_nat 100
  rw [e100] at ho4
  obtain ⟨g0, gp, gn, gc, gz, rfl, hg, hgi⟩ := open_Signed ho4.reps rfl
  simp only [List.cons.injEq, D0.bool.injEq, D0.ints.injEq, and_true] at hg
  obtain ⟨rfl, rfl⟩ := hg
  refine ⟨_, _, _, _, rfl, y4, ?_⟩
  intro ss1 w5 f2
  have Y5 := (f1.ext.trans y4).trans f2.ext
  have hd5 : Reps w5 [.bool false, .slice gp gn gc, .int .i64 0] (dnn 100 0) := ⟨rfl, ⟨_, _, _, rfl, hgi.ext f2.ext⟩, rfl, trivial⟩
  refine Ret.at (impl_DecMul_n (hr2.ext (D.trans Y5)) hd5 (by omega) (by omega) ⟨by omega, by omega⟩ ⟨by omega, by omega⟩ (by omega) (by omega)) ?_
  rintro v w6 ⟨vs6, f6, hv, ho6, y6⟩
  subst hv
  rw [Int.add_zero] at ho6
  have hp6 := ho6.reps
  obtain ⟨d0, dp, dn, dc, dz, ds, rfl, hde, hdi⟩ := open_Dec hp6 rfl
  have hde' := hde
  simp only [dnn, List.cons.injEq, D0.bool.injEq, D0.ints.injEq, D0.int.injEq, and_true] at hde'
  obtain ⟨rfl, rfl, rfl⟩ := hde'
  refine ⟨_, _, _, _, _, _, rfl, ?_⟩
  intro ss2 w7 r7 f3 g3
  have Y7 := (Y5.trans y6).trans f3.ext
  have hb7 : Blk w7 r7 T_impl_Dec [.bool false, .slice none 0 0, .int .i64 0] := by
    have len0 := f1.len; have len1 := f2.len
    cases hs : ss[0]? with
    | none =>
      rw [List.getElem?_eq_none_iff, len0] at hs
      simp at hs
    | some v =>
      cases v with
      | some q =>
        obtain ⟨_, hq⟩ := f1.got (k := 0) rfl rfl hs
        have e := (f3.keeps (f2.keeps hs)).symm.trans g3
        have e : q = r7 := by simpa using e
        rw [e] at hq
        exact Blk.ext (show Blk w3 r7 T_impl_Dec [.bool false, .slice none 0 0, .int .i64 0] from hq) (((y4.trans f2.ext).trans y6).trans f3.ext)
      | none =>
        cases hs1 : ss1[0]? with
        | none =>
          rw [List.getElem?_eq_none_iff, len1, len0] at hs1
          simp at hs1
        | some v1 =>
          cases v1 with
          | some q =>
            obtain ⟨_, hq⟩ := f2.got (k := 0) hs rfl hs1
            have e := (f3.keeps hs1).symm.trans g3
            have e : q = r7 := by simpa using e
            rw [e] at hq
            exact Blk.ext (show Blk w5 r7 T_impl_Dec [.bool false, .slice none 0 0, .int .i64 0] from hq) (y6.trans f3.ext)
          | none => exact (f3.got (k := 0) hs1 rfl g3).2
  have hr7 : w2.drew.heap.size <= r7 := by
    have len0 := f1.len; have len1 := f2.len
    cases hs : ss[0]? with
    | none =>
      rw [List.getElem?_eq_none_iff, len0] at hs
      simp at hs
    | some v =>
      cases v with
      | some q =>
        obtain ⟨b, _⟩ := f1.got (k := 0) rfl rfl hs
        have e := (f3.keeps (f2.keeps hs)).symm.trans g3
        have e : q = r7 := by simpa using e
        omega
      | none =>
        cases hs1 : ss1[0]? with
        | none =>
          rw [List.getElem?_eq_none_iff, len1, len0] at hs1
          simp at hs1
        | some v1 =>
          cases v1 with
          | some q =>
            obtain ⟨b, _⟩ := f2.got (k := 0) hs rfl hs1
            have e := (f3.keeps hs1).symm.trans g3
            have e : q = r7 := by simpa using e
            have := (f1.ext.trans y4).le
            omega
          | none =>
            have b := (f3.got (k := 0) hs1 rfl g3).1
            have := (Y5.trans y6).le
            omega
  obtain ⟨w8, st8, hb8, ch, sz⟩ := hb7.storeA0 (P := P) (t := T_impl_Dec) (xs := [.bool false, .slice dp dn dc, .int .i64 (t : Int)]) (by kernel_rfl) rfl (by simp [Value.oneCell'])
  have Z8 : Ext w w8 := (X2.trans (D.trans Y7)).chg ch (by
    have := (X2.trans D).le
    simp; omega)
  have hp8 : Reps w8 [.bool false, .slice dp dn dc, .int .i64 (t : Int)] (dnn (m * 100) t) := ⟨rfl, ⟨_, _, _, rfl, IntsR.store3 hb7 (hdi.ext f3.ext) ch⟩, rfl, trivial⟩
  refine ⟨w8, st8, _, _, _, _, _, hb8.loadA0 (by kernel_rfl), ?_⟩
  refine Ret.at (impl_DecLow_n hp8 (by omega) ht) ?_
  rintro v w9 ⟨vs9, hv, hp9, y9⟩
  subst hv
  have hp9' := hp9
  obtain ⟨e0, ep, en, ec, ez, es, rfl, _, _⟩ := open_Dec hp9' rfl
  refine ⟨_, _, _, _, _, rfl, ?_⟩
  refine Ret.at (impl_DecText_c hp9 rfl (hp.ext (Z8.trans y9))) ?_
  rintro v w10 ⟨hv, y10⟩
  subst hv
  have N := decT_size (dnn (lowM (m * 100) t) (lowS (m * 100) t))
  refine ⟨_, rfl, ?_, _, rfl, rfl, (Z8.trans y9).trans y10⟩
  show _ + 1 <= _
  omega
end Go.Proofs.YtgbknjdjbahdkaaGreatDoor
namespace Go.Proofs.YtgbknjdjbahdkaaGreatDoor
open Go Go.Proofs.YtgbknjdjbahdkaaGreatDoor.Sx
def bodyT (s : ByteArray) : ByteArray := s.extract 0 (s.size - 1)
def lowD : List D0 -> List D0
  | [.bool b, .ints z, .int t] => dsn b (lowM (val z).toNat (t.toNat + 2)) (lowS (val z).toNat (t.toNat + 2))
  | _ => zeroDec
def tpOk (s : ByteArray) : Bool := decide (s.data.toList.getLast? = some 37) && (tdOk (bodyT s) && decide (percentT (lowD (cand (bodyT s).data.toList)) = s))
def tpR (s : ByteArray) : List D0 := if tpOk s then lowD (cand (bodyT s).data.toList) else zeroDec
theorem cand_parts {s : ByteArray} (h : tdOk s = true) : ∃ (b : Bool) (m t : Nat), cand s.data.toList = dsn b m t /\ (b = true -> m ≠ 0) /\ (digs m).length <= 6 /\ t <= 30 /\ decT (dsn b m t) = s := by
  unfold tdOk at h
  simp only [Bool.and_eq_true, decide_eq_true_eq] at h
  obtain ⟨hok, hT⟩ := h
  obtain ⟨m, t, k, hz, ht, ht30, hb, hm, _⟩ := decT_shape (b := decide (s.data.toList.head? = some 45)) (z := digs (digV (strip (filt s.data.toList)))) (s := (scaleG 0 s.data.toList : Nat)) hok
  have e : cand s.data.toList = dsn (decide (s.data.toList.head? = some 45)) m t := by
    unfold cand dsn
    rw [hz, ht]
  exact ⟨_, m, t, e, hb, hm, ht30, by rw [<- e]; exact hT⟩
theorem lowD_dsn (b : Bool) (m t : Nat) : lowD (dsn b m t) = dsn b (lowM m (t + 2)) (lowS m (t + 2)) := by
  show dsn b (lowM (val (digs m)).toNat ((t : Int).toNat + 2)) (lowS (val (digs m)).toNat ((t : Int).toNat + 2)) = _
  rw [val_digs, Int.toNat_natCast, Int.toNat_natCast]
theorem body_size {s : ByteArray} (h : s.data.toList.getLast? = some 37) : 0 < s.size /\ s = bodyT s ++ S [37] := by
  obtain ⟨l, hl⟩ : ∃ l, s.data.toList = l := ⟨_, rfl⟩
  have hs : s.size = l.length := by rw [ba_size, hl]
  rw [hl] at h
  have hne : l ≠ [] := fun e => by rw [e] at h; cases h
  have h0 : 0 < l.length := List.length_pos_iff.2 hne
  refine ⟨by omega, ba_ext ?_⟩
  unfold bodyT
  rw [ByteArray.data_append, Array.toList_append, ByteArray.data_extract, Array.toList_extract, hl, List.extract_eq_take_drop, List.drop_zero, hs, Nat.sub_zero]
  show l = l.take (l.length - 1) ++ [37]
  rw [List.getLast?_eq_some_iff] at h
  obtain ⟨ys, rfl⟩ := h
  simp
theorem owns_nd2 {W : World} {B : Nat} {b : Bool} {p : Option Addr} {n c : Nat} {z : List Int} {f : List Nat} (h : Owns W B [.bool b, .slice p n c] [.bool b, .ints z] f) : f.Nodup := by
  obtain ⟨f1, f2, rfl, ⟨_, rfl⟩, f3, f4, rfl, ⟨p', n', c', e, _, rfl⟩, rfl⟩ := h
  simp only [List.nil_append, List.append_nil]
  exact nodup_opt p'
theorem strip_step {m s t : Nat} (ht : 0 < t) (hts : t <= s) (h : m % 10 ^ (s - t) = 0) (h10 : m / 10 ^ (s - t) % 10 = 0) : m % 10 ^ (s - (t - 1)) = 0 /\ m / 10 ^ (s - (t - 1)) = m / 10 ^ (s - t) / 10 := by
  have e : s - (t - 1) = (s - t) + 1 := by omega
  rw [e, Nat.pow_succ]
  refine ⟨?_, (Nat.div_div_eq_div_mul _ _ _).symm⟩
  rw [Nat.mod_mul, h, h10]; simp
theorem strip_stop {m s t : Nat} (hts : t <= s) (h10 : m / 10 ^ (s - t) % 10 ≠ 0) : ∀ u, u < t -> m % 10 ^ (s - u) ≠ 0 := by
  intro u hu h0
  have h1 : 10 ^ ((s - t) + 1) ∣ 10 ^ (s - u) := Nat.pow_dvd_pow 10 (by omega)
  have h2 : m % 10 ^ ((s - t) + 1) = 0 := Nat.mod_eq_zero_of_dvd (Nat.dvd_trans h1 (Nat.dvd_of_mod_eq_zero h0))
  rw [Nat.pow_succ, Nat.mod_mul] at h2
  have h3 : 0 < 10 ^ (s - t) := Nat.pos_of_ne_zero (by simp)
  have h4 : 10 ^ (s - t) * (m / 10 ^ (s - t) % 10) = 0 := by omega
  rcases Nat.mul_eq_zero.1 h4 with h5 | h5
  · omega
  · exact h10 h5
end Go.Proofs.YtgbknjdjbahdkaaGreatDoor
