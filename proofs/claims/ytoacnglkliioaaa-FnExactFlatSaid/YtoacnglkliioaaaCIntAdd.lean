/-
  Contracts: the sum of two integers, of a list of integers.
-/
import Derived.Test.YtoacnglkliioaaaCSigned
namespace Go.Proofs.Ytoacnglkliioaaa
open Go Go.Proofs.Ytoacnglkliioaaa.Sx
set_option linter.unusedVariables false
set_option linter.unusedSimpArgs false

def iadd (d e : List D0) : List D0 := if intOk d && intOk e then icap (ival d + ival e) else enc 0
theorem enc0 : enc 0 = [.bool false, .ints []] := by simp [enc, digs_zero]
theorem icap_code (z : Int) : (icap z).map D0.code = [.bool, .ints] := rfl
theorem capL_canon {n : Nat} : Canon (capL (digs n)) ∧ (capL (digs n)).length ≤ 50 := by
  unfold capL
  split
  · exact ⟨digs_canon n, by assumption⟩
  · exact ⟨⟨Limbs.nil, by simp⟩, by simp⟩
theorem icap_ok (z : Int) : intOk (icap z) = true := by
  have h := capL_canon (n := z.natAbs)
  simp only [icap, mkS, intOk, natOk_spec.2 h, Bool.true_and]
  cases decide (z < 0) <;> cases (capL (digs z.natAbs)) <;> simp
theorem enc0_ok : intOk (enc 0) = true := by rw [enc0]; rfl
theorem iadd_ok (d e : List D0) : intOk (iadd d e) = true := by
  unfold iadd
  split
  · exact icap_ok _
  · exact enc0_ok
theorem iadd_code (d e : List D0) : (iadd d e).map D0.code = [.bool, .ints] := by
  unfold iadd; split <;> rfl
theorem mkS_digs {neg : Bool} {m : Nat} {z : Int} (hm : m = z.natAbs) (hs : m ≠ 0 → neg = decide (z < 0)) : mkS neg (capL (digs m)) = icap z := by
  subst hm
  by_cases h0 : z.natAbs = 0
  · have hz : z = 0 := by omega
    subst hz
    simp [icap, mkS, digs_zero, capL]
  · rw [hs h0]; rfl

theorem impl_fitInt_c {w : World} {B : Nat} {z : Int} {b : Bool} {p : Option Addr} {n c : Nat} (hb : b = decide (z < 0)) (h : Own w B T_int 1 p n c ((digs z.natAbs).map (Value.int .i64))) :
    Ret P n_impl_fitInt [.agg ⟨[.bool b, .slice p n c]⟩] w fun v w' => ∃ vs' f, v = .agg ⟨vs'⟩ ∧ Owns w' B vs' (icap z) f ∧ f.Nodup ∧ Ext w w' := by
  subst hb
  refine impl_fitInt_ret ?_
  unfold impl_fitInt
  intro r w1 hn1 r1 w2 hn2
  have x := hn1.ext.trans hn2.ext
  have k0 := hn1.blk.ext hn2.ext
  have D := Ext.drew w2
  have XD := x.trans D
  refine ⟨_, fun W hW => (k0.ext (D.trans hW)).load (by kernel_rfl) rfl, _, _, _, fun W hW => (k0.ext (D.trans hW)).load (by kernel_rfl) rfl, ?_⟩
  refine Ret.at (impl_fit_c (h.ext XD).ints) ?_
  rintro v w3 ⟨hw, hv, hr⟩
  subst hw
  have et : trimL (digs z.natAbs) = digs z.natAbs := by rw [trimL_eq (digs_limbs _), val_digs]; rfl
  rw [et] at hv hr
  have hln : (digs z.natAbs).length = n := h.ints.1
  have ho := h.ext XD
  have hB : ∀ q, p.map (·.block) = some q → q ≠ r1 := fun q hq => by
    have := (World.ownsRow.lt h q (by rw [← hq]; cases p <;> rfl)).2
    have := hn1.size; have := hn2.r_eq
    omega
  have e2 := hn2.r_eq; have s1 := hn1.size
  by_cases hcap : (digs z.natAbs).length ≤ 50
  · rw [if_pos hcap, hln] at hv
    subst hv
    refine ⟨_, _, _, rfl, Ext.refl _, ?_⟩
    refine Ret.at (impl_signed_c hln) ?_
    rintro v w4 ⟨hv, y4⟩
    subst hv
    obtain ⟨w5, st, hb5, ch, sz⟩ := ((hn2.blk.ext D).ext y4).storeA0 (P := P) (t := T_impl_Signed) (xs := [.bool (decide (z < 0) && !(digs z.natAbs).isEmpty), .slice p n c]) (by kernel_rfl) rfl (by simp [Value.oneCell'])
    refine ⟨_, _, _, _, rfl, w5, st, _, _, _, _, hb5.loadA0 (by kernel_rfl), _, _, rfl, ?_, nodup_opt p, (XD.trans y4).chg ch (by simp; omega)⟩
    have := Owns.int2 (b := decide (z < 0) && !(digs z.natAbs).isEmpty) ((ho.ext y4).chg ch (fun q hq => by simp only [List.mem_singleton]; exact hB q hq))
    simpa only [icap, mkS, capL, if_pos hcap] using this
  · rw [if_neg hcap] at hv
    subst hv
    refine ⟨_, _, _, rfl, Ext.refl _, ?_⟩
    refine Ret.at (impl_signed_c (z := []) rfl) ?_
    rintro v w4 ⟨hv, y4⟩
    subst hv
    obtain ⟨w5, st, hb5, ch, sz⟩ := ((hn2.blk.ext D).ext y4).storeA0 (P := P) (t := T_impl_Signed) (xs := [.bool (decide (z < 0) && !([] : List Int).isEmpty), .slice none 0 0]) (by kernel_rfl) rfl (by simp [Value.oneCell'])
    refine ⟨_, _, _, _, rfl, w5, st, _, _, _, _, hb5.loadA0 (by kernel_rfl), _, _, rfl, ?_, nodup_opt none, (XD.trans y4).chg ch (by simp; omega)⟩
    have := Owns.int2 (z := []) (b := decide (z < 0) && !([] : List Int).isEmpty) (Own.nil w5 B T_int 1 : Own w5 B T_int 1 none 0 0 (([] : List Int).map (Value.int .i64)))
    simpa only [icap, mkS, capL, if_neg hcap] using this

theorem impl_intsOk_c {w : World} {xs ys : List Value} {dx dy : List D0} (h : Reps w xs dx) (k : Reps w ys dy) (hc : dx.map D0.code = [.bool, .ints]) (kc : dy.map D0.code = [.bool, .ints]) :
    Ret P n_impl_intsOk [.agg ⟨xs⟩, .agg ⟨ys⟩] w fun v w' => v = .bool (intOk dx && intOk dy) ∧ Ext w w' := by
  have hr := h; have kr := k
  obtain ⟨a0, a1p, a1n, a1c, a1z, rfl, rfl, ha⟩ := open_Signed h hc
  obtain ⟨b0, b1p, b1n, b1c, b1z, rfl, rfl, hb⟩ := open_Signed k kc
  refine impl_intsOk_ret ?_
  unfold impl_intsOk
  intro r w1 hn1 r1 w2 hn2
  have x := hn1.ext.trans hn2.ext
  have k0 := hn1.blk.ext hn2.ext; have k1 := hn2.blk
  refine ⟨_, _, _, _, k0.loadA0 (by kernel_rfl), ?_⟩
  refine Ret.at (impl_IntOk_c (hr.ext x) rfl) ?_
  rintro v w3 ⟨hv, y⟩
  subst hv
  refine ⟨_, rfl, fun e => ⟨_, _, _, _, (k1.ext y).loadA0 (by kernel_rfl), ?_⟩, fun e => ⟨by rw [e]; rfl, x.trans y⟩⟩
  refine Ret.at (impl_IntOk_c (kr.ext (x.trans y)) rfl) ?_
  rintro v w4 ⟨hv, y2⟩
  subst hv
  exact ⟨_, rfl, by rw [e]; rfl, (x.trans y).trans y2⟩

theorem impl_IntAdd_c {w : World} {xs ys : List Value} {dx dy : List D0} (h : Reps w xs dx) (k : Reps w ys dy) (hc : dx.map D0.code = [.bool, .ints]) (kc : dy.map D0.code = [.bool, .ints]) :
    Ret P n_impl_IntAdd [.agg ⟨xs⟩, .agg ⟨ys⟩] w fun v w' => ∃ vs' f, v = .agg ⟨vs'⟩ ∧ Owns w' w.heap.size vs' (iadd dx dy) f ∧ f.Nodup ∧ Ext w w' := by
  have hr := h; have kr := k
  have hc0 := hc; have kc0 := kc
  obtain ⟨a0, a1p, a1n, a1c, a1z, rfl, hd, ha⟩ := open_Signed h hc
  obtain ⟨b0, b1p, b1n, b1c, b1z, rfl, he, hb⟩ := open_Signed k kc
  refine impl_IntAdd_ret ?_
  unfold impl_IntAdd
  intro r w1 hn1 r1 w2 hn2 r2 w3 hn3
  have X := (hn1.ext.trans hn2.ext).trans hn3.ext
  have e1 := hn1.r_eq; have e2 := hn2.r_eq; have e3 := hn3.r_eq; have s1 := hn1.size; have s2 := hn2.size; have s3 := hn3.size
  have k0 := (hn1.blk.ext hn2.ext).ext hn3.ext; have k1 := hn2.blk.ext hn3.ext; have k2 := hn3.blk
  refine ⟨_, _, _, _, k0.loadA0 (by kernel_rfl), _, _, _, _, k1.loadA0 (by kernel_rfl), ?_⟩
  refine Ret.at (impl_intsOk_c (hr.ext X) (kr.ext X) hc kc) ?_
  rintro v w4 ⟨hv, y4⟩
  subst hv
  have X4 := X.trans y4; have k0 := k0.ext y4; have k1 := k1.ext y4; have k2 := k2.ext y4
  refine ⟨_, rfl, ifN (fun hno => ?_) (fun hok => ?_)⟩
  · obtain ⟨w5, st, hb5, ch, sz⟩ := k2.storeA0 (P := P) (t := T_impl_Signed) (xs := [.bool false, .slice none 0 0]) (by kernel_rfl) rfl (by simp [Value.oneCell'])
    refine ⟨w5, st, _, _, _, _, hb5.loadA0 (by kernel_rfl), _, _, rfl, ?_, nodup_opt none, X4.chg ch (by simp; omega)⟩
    have : iadd dx dy = [.bool false, .ints []] := by rw [iadd, hno, ← enc0]; rfl
    rw [this]
    exact Owns.int2 (z := []) (Own.nil w5 _ T_int 1 : Own w5 w.heap.size T_int 1 none 0 0 (([] : List Int).map (Value.int .i64)))
  · have hok' := hok
    simp only [Bool.and_eq_true] at hok'
    obtain ⟨ex, _, zx, hx1, cx, lx⟩ := intOk_enc hok'.1
    obtain ⟨ey, _, zy, hy1, cy, ly⟩ := intOk_enc hok'.2
    have lenx : (digs (ival dx).natAbs).length ≤ 50 := by
      rw [ex] at hx1
      simp only [enc, List.cons.injEq, D0.ints.injEq, and_true] at hx1
      rw [hx1.2]; exact lx
    have leny : (digs (ival dy).natAbs).length ≤ 50 := by
      rw [ey] at hy1
      simp only [enc, List.cons.injEq, D0.ints.injEq, and_true] at hy1
      rw [hy1.2]; exact ly
    refine ⟨_, _, _, _, k0.loadA0 (by kernel_rfl), _, _, _, _, k1.loadA0 (by kernel_rfl), ?_⟩
    refine Ret.at (impl_intAdd_c (x := ival dx) (y := ival dy) (by rw [← ex]; exact hr.ext X4) (by rw [← ey]; exact kr.ext X4) (by omega) (by omega)) ?_
    rintro v w5 ⟨p, n, c, hv, hown, y5⟩
    subst hv
    refine ⟨_, _, _, _, rfl, ?_⟩
    refine Ret.at (impl_fitInt_c (z := ival dx + ival dy) rfl hown) ?_
    rintro v w6 ⟨vs', f, hv, ho, hnd, y6⟩
    subst hv
    obtain ⟨q0, q1p, q1n, q1c, q1z, rfl, hq, hqi⟩ := open_Signed ho.reps (icap_code _)
    have X6 := (X4.trans y5).trans y6
    have s4 := X4.le; have s34 := y4.le
    obtain ⟨w7, st, hb7, ch, sz⟩ := ((k2.ext y5).ext y6).storeA0 (P := P) (t := T_impl_Signed) (xs := [.bool q0, .slice q1p q1n q1c]) (by kernel_rfl) rfl ho.reps.cells1
    refine ⟨_, _, _, _, rfl, w7, st, _, _, _, _, hb7.loadA0 (by kernel_rfl), _, f, rfl, ?_, hnd, X6.chg ch (by simp; omega)⟩
    have : iadd dx dy = icap (ival dx + ival dy) := by rw [iadd, hok]; rfl
    rw [this]
    exact (ho.chg1 ch (by omega)).mono (by omega)

end Go.Proofs.Ytoacnglkliioaaa
