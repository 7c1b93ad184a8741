/-
  Parts of the proof of plan_holds: WPlan, SxRow, SxOpen, CTab.
  Conditions: none.
-/
import Derived.ProofKit
import Derived.Deep.Slices
import Derived.Test.YtfehpaekbbmkcaaGreatDoorRows
import Derived.OpenShut
import Derived.Lib.LaidTab
import Derived.Test.YtfehpaekbbmkcaaGreatDoorPn6

namespace Go.Proofs.YtfehpaekbbmkcaaGreatDoor
open Go Go.Proofs.YtfehpaekbbmkcaaGreatDoor.Sx
set_option linter.unusedVariables false
set_option linter.unusedSimpArgs false
set_option maxHeartbeats 4000000
theorem laws_FnExactPlan_c {w : World} {vs0 : List Value} {d0 : List D0} (h0 : Reps w vs0 d0) (hc0 : d0.map D0.code = [.str, .bool, .ints]) (hk0 : ∀ x ∈ d0, x.ok) {vs1 : List Value} {d1 : List D0} (h1 : Reps w vs1 d1) (hc1 : d1.map D0.code = [.bool, .ints, .int]) (hk1 : ∀ x ∈ d1, x.ok) {vs2 : List Value} {d2 : List D0} (h2 : Reps w vs2 d2) (hc2 : d2.map D0.code = [.str, .bool, .ints]) (hk2 : ∀ x ∈ d2, x.ok) (a3 : Int) (a4 : Int) (ht : Tab w) :
    Ret P n_laws_FnExactPlan [.agg ⟨vs0⟩, .agg ⟨vs1⟩, .agg ⟨vs2⟩, .int .i64 a3, .int .i64 a4] w fun v w' => v = .bool true ∧ Ext w w' := by
  have hr0 := h0
  obtain ⟨u00, u01, u02p, u02n, u02c, u02z, rfl, rfl, u02h⟩ := open_Money h0 hc0
  have hr1 := h1
  obtain ⟨u10, u11p, u11n, u11c, u11z, u12, rfl, rfl, u11h⟩ := open_Dec h1 hc1
  have hr2 := h2
  obtain ⟨u20, u21, u22p, u22n, u22c, u22z, rfl, rfl, u22h⟩ := open_Money h2 hc2
  refine laws_FnExactPlan_ret ?_
  unfold laws_FnExactPlan
  have x : Ext w w := Ext.refl w
  intro r_a0 W1 hn
  have er_a0 := hn.r_eq; have sr_a0 := hn.size
  have y := hn.ext
  replace x := x.trans y
  have ll1 := y.le
  have bk_a0 := hn.blk; clear hn
  intro r_a1 W2 hn
  have er_a1 := hn.r_eq; have sr_a1 := hn.size
  have y := hn.ext
  replace x := x.trans y
  replace bk_a0 := bk_a0.ext y
  have ll2 := y.le
  have bk_a1 := hn.blk; clear hn
  intro r_a2 W3 hn
  have er_a2 := hn.r_eq; have sr_a2 := hn.size
  have y := hn.ext
  replace x := x.trans y
  replace bk_a0 := bk_a0.ext y
  replace bk_a1 := bk_a1.ext y
  have ll3 := y.le
  have bk_a2 := hn.blk; clear hn
  refine ⟨_, _, _, _, _, bk_a0.loadA0 (by kernel_rfl), ?_⟩
  refine Ret.at (laws_szMoney_c (hr0.ext x) rfl hk0 (by omega) (by omega)) ?_
  rintro v W4 ⟨k0, hv, hs0, hm0, y⟩
  subst hv
  replace x := x.trans y
  replace bk_a0 := bk_a0.ext y
  replace bk_a1 := bk_a1.ext y
  replace bk_a2 := bk_a2.ext y
  have ll4 := y.le
  refine ⟨_, rfl, ifD (fun _ => ⟨rfl, x⟩) (fun hp0 => ?_)⟩
  refine ⟨_, _, _, _, _, bk_a1.loadA0 (by kernel_rfl), ?_⟩
  refine Ret.at (laws_szDec_c (hr1.ext x) rfl hk1 (by omega) (by omega)) ?_
  rintro v W5 ⟨k1, hv, hs1, hm1, y⟩
  subst hv
  replace x := x.trans y
  replace bk_a0 := bk_a0.ext y
  replace bk_a1 := bk_a1.ext y
  replace bk_a2 := bk_a2.ext y
  have ll5 := y.le
  refine ⟨_, rfl, ifD (fun _ => ⟨rfl, x⟩) (fun hp1 => ?_)⟩
  refine ⟨_, _, _, _, _, bk_a2.loadA0 (by kernel_rfl), ?_⟩
  refine Ret.at (laws_szMoney_c (hr2.ext x) rfl hk2 (by omega) (by omega)) ?_
  rintro v W6 ⟨k2, hv, hs2, hm2, y⟩
  subst hv
  replace x := x.trans y
  replace bk_a0 := bk_a0.ext y
  replace bk_a1 := bk_a1.ext y
  replace bk_a2 := bk_a2.ext y
  have ll6 := y.le
  refine ⟨_, rfl, ifD (fun _ => ⟨rfl, x⟩) (fun hp2 => ?_)⟩
  have hs0 := hs0 (by omega)
  have hs1 := hs1 (by omega)
  have hs2 := hs2 (by omega)
  simp only [bulks, D0.bulk, List.map_cons, List.map_nil, List.sum_cons, List.sum_nil] at hs0
  simp only [bulks, D0.bulk, List.map_cons, List.map_nil, List.sum_cons, List.sum_nil] at hs1
  simp only [bulks, D0.bulk, List.map_cons, List.map_nil, List.sum_cons, List.sum_nil] at hs2
  have y := Ext.drew W6
  replace x := x.trans y
  replace bk_a0 := bk_a0.ext y
  replace bk_a1 := bk_a1.ext y
  replace bk_a2 := bk_a2.ext y
  have ll7 := y.le
  have bd0 := bk_a0
  have bd1 := bk_a1
  have bd2 := bk_a2
  refine ⟨_, _, _, _, _, fun W' hW => (bd0.ext hW).loadA0 (by kernel_rfl), ?_⟩
  refine Ret.at (laws_toMoney_c (hr0.ext x) rfl (by simp only [bulks, D0.bulk, List.map_cons, List.map_nil, List.sum_cons, List.sum_nil]; omega)) ?_
  rintro v W7 ⟨vs, f_s0, hv, o_s0, nd_s0, y⟩
  subst hv
  obtain ⟨ts00, ts01, ts02p, ts02n, ts02c, ts02z, rfl, hds0, ts02h⟩ := open_Money o_s0.reps rfl
  have lt_o_s0 : ∀ k ∈ f_s0, W6.heap.size ≤ k ∧ k < W7.heap.size := o_s0.lt
  have yy := y
  replace x := x.trans y
  replace bk_a0 := bk_a0.ext y
  replace bk_a1 := bk_a1.ext y
  replace bk_a2 := bk_a2.ext y
  have ll8 := y.le
  refine ⟨_, _, _, _, _, rfl, yy, ?_⟩
  refine ⟨_, _, _, _, _, fun W' hW => (bd1.ext hW).loadA0 (by kernel_rfl), ?_⟩
  refine Ret.at (laws_toDec_c (hr1.ext x) rfl (by simp only [bulks, D0.bulk, List.map_cons, List.map_nil, List.sum_cons, List.sum_nil]; omega)) ?_
  rintro v W8 ⟨vs, f_s1, hv, o_s1, nd_s1, y⟩
  subst hv
  obtain ⟨ts10, ts11p, ts11n, ts11c, ts11z, ts12, rfl, hds1, ts11h⟩ := open_Dec o_s1.reps rfl
  have lt_o_s1 : ∀ k ∈ f_s1, W7.heap.size ≤ k ∧ k < W8.heap.size := o_s1.lt
  have yy := y
  replace x := x.trans y
  replace bk_a0 := bk_a0.ext y
  replace bk_a1 := bk_a1.ext y
  replace bk_a2 := bk_a2.ext y
  replace o_s0 := o_s0.ext y
  have ll9 := y.le
  refine ⟨_, _, _, _, _, rfl, yy, ?_⟩
  refine ⟨_, _, _, _, _, fun W' hW => (bd2.ext hW).loadA0 (by kernel_rfl), ?_⟩
  refine Ret.at (laws_toMoney_c (hr2.ext x) rfl (by simp only [bulks, D0.bulk, List.map_cons, List.map_nil, List.sum_cons, List.sum_nil]; omega)) ?_
  rintro v W9 ⟨vs, f_s2, hv, o_s2, nd_s2, y⟩
  subst hv
  obtain ⟨ts20, ts21, ts22p, ts22n, ts22c, ts22z, rfl, hds2, ts22h⟩ := open_Money o_s2.reps rfl
  have lt_o_s2 : ∀ k ∈ f_s2, W8.heap.size ≤ k ∧ k < W9.heap.size := o_s2.lt
  have yy := y
  replace x := x.trans y
  replace bk_a0 := bk_a0.ext y
  replace bk_a1 := bk_a1.ext y
  replace bk_a2 := bk_a2.ext y
  replace o_s0 := o_s0.ext y
  replace o_s1 := o_s1.ext y
  have ll10 := y.le
  refine ⟨_, _, _, _, _, rfl, ?_⟩
  refine Ret.at (spec_Plan_c o_s0.reps rfl o_s1.reps rfl o_s2.reps rfl a3 a4) ?_
  rintro v W10 ⟨p_w0, m_w0, c_w0, hv, o_w0, co_w0, y⟩
  subst hv
  replace x := x.trans y
  replace bk_a0 := bk_a0.ext y
  replace bk_a1 := bk_a1.ext y
  replace bk_a2 := bk_a2.ext y
  have ll11 := y.le
  have xS := Ext.refl W10
  refine ⟨_, _, _, _, rfl, ?_⟩
  refine ⟨_, _, _, _, _, bk_a0.loadA0 (by kernel_rfl), ?_⟩
  refine Ret.at (laws_toMoney_c (hr0.ext x) rfl (by simp only [bulks, D0.bulk, List.map_cons, List.map_nil, List.sum_cons, List.sum_nil]; omega)) ?_
  rintro v W11 ⟨vs, f_x0, hv, o_x0, nd_x0, y⟩
  subst hv
  obtain ⟨tx00, tx01, tx02p, tx02n, tx02c, tx02z, rfl, hdx0, tx02h⟩ := open_Money o_x0.reps rfl
  have lt_o_x0 : ∀ k ∈ f_x0, W10.heap.size ≤ k ∧ k < W11.heap.size := o_x0.lt
  replace x := x.trans y
  replace xS := xS.trans y
  replace bk_a0 := bk_a0.ext y
  replace bk_a1 := bk_a1.ext y
  replace bk_a2 := bk_a2.ext y
  have ll12 := y.le
  refine ⟨_, _, _, _, _, rfl, ?_⟩
  intro r_x0 W12 hn
  have er_x0 := hn.r_eq; have sr_x0 := hn.size
  have y := hn.ext
  replace x := x.trans y
  replace xS := xS.trans y
  replace bk_a0 := bk_a0.ext y
  replace bk_a1 := bk_a1.ext y
  replace bk_a2 := bk_a2.ext y
  replace o_x0 := o_x0.ext y
  have ll13 := y.le
  have bk_x0 := hn.blk; clear hn
  obtain ⟨W13, st, bq, ch, sz⟩ := bk_x0.storeA0 (P := P) (t := T_impl_Money) (xs := [.string tx00, .bool tx01, .slice tx02p tx02n tx02c]) (by kernel_rfl) rfl o_x0.reps.cells1
  replace x := x.chg ch (by simp; omega)
  replace xS := xS.chg ch (by simp; omega)
  replace bk_a0 := bk_a0.chg ch (by simp; omega)
  replace bk_a1 := bk_a1.chg ch (by simp; omega)
  replace bk_a2 := bk_a2.chg ch (by simp; omega)
  replace o_x0 := o_x0.chg ch (fun k hk hm => by have h1 := lt_o_x0 k hk; simp at hm; omega)
  have bk_x0 := bq; clear bq
  have ll14 := ch.size
  refine ⟨_, st, ?_⟩
  refine ⟨_, _, _, _, _, bk_a1.loadA0 (by kernel_rfl), ?_⟩
  refine Ret.at (laws_toDec_c (hr1.ext x) rfl (by simp only [bulks, D0.bulk, List.map_cons, List.map_nil, List.sum_cons, List.sum_nil]; omega)) ?_
  rintro v W14 ⟨vs, f_x1, hv, o_x1, nd_x1, y⟩
  subst hv
  obtain ⟨tx10, tx11p, tx11n, tx11c, tx11z, tx12, rfl, hdx1, tx11h⟩ := open_Dec o_x1.reps rfl
  have lt_o_x1 : ∀ k ∈ f_x1, W13.heap.size ≤ k ∧ k < W14.heap.size := o_x1.lt
  replace x := x.trans y
  replace xS := xS.trans y
  replace bk_a0 := bk_a0.ext y
  replace bk_a1 := bk_a1.ext y
  replace bk_a2 := bk_a2.ext y
  replace bk_x0 := bk_x0.ext y
  replace o_x0 := o_x0.ext y
  have ll15 := y.le
  refine ⟨_, _, _, _, _, rfl, ?_⟩
  intro r_x1 W15 hn
  have er_x1 := hn.r_eq; have sr_x1 := hn.size
  have y := hn.ext
  replace x := x.trans y
  replace xS := xS.trans y
  replace bk_a0 := bk_a0.ext y
  replace bk_a1 := bk_a1.ext y
  replace bk_a2 := bk_a2.ext y
  replace bk_x0 := bk_x0.ext y
  replace o_x0 := o_x0.ext y
  replace o_x1 := o_x1.ext y
  have ll16 := y.le
  have bk_x1 := hn.blk; clear hn
  obtain ⟨W16, st, bq, ch, sz⟩ := bk_x1.storeA0 (P := P) (t := T_impl_Dec) (xs := [.bool tx10, .slice tx11p tx11n tx11c, .int .i64 tx12]) (by kernel_rfl) rfl o_x1.reps.cells1
  replace x := x.chg ch (by simp; omega)
  replace xS := xS.chg ch (by simp; omega)
  replace bk_a0 := bk_a0.chg ch (by simp; omega)
  replace bk_a1 := bk_a1.chg ch (by simp; omega)
  replace bk_a2 := bk_a2.chg ch (by simp; omega)
  replace bk_x0 := bk_x0.chg ch (by simp; omega)
  replace o_x0 := o_x0.chg ch (fun k hk hm => by have h1 := lt_o_x0 k hk; simp at hm; omega)
  replace o_x1 := o_x1.chg ch (fun k hk hm => by have h1 := lt_o_x1 k hk; simp at hm; omega)
  have bk_x1 := bq; clear bq
  have ll17 := ch.size
  refine ⟨_, st, ?_⟩
  refine ⟨_, _, _, _, _, bk_a2.loadA0 (by kernel_rfl), ?_⟩
  refine Ret.at (laws_toMoney_c (hr2.ext x) rfl (by simp only [bulks, D0.bulk, List.map_cons, List.map_nil, List.sum_cons, List.sum_nil]; omega)) ?_
  rintro v W17 ⟨vs, f_x2, hv, o_x2, nd_x2, y⟩
  subst hv
  obtain ⟨tx20, tx21, tx22p, tx22n, tx22c, tx22z, rfl, hdx2, tx22h⟩ := open_Money o_x2.reps rfl
  have lt_o_x2 : ∀ k ∈ f_x2, W16.heap.size ≤ k ∧ k < W17.heap.size := o_x2.lt
  replace x := x.trans y
  replace xS := xS.trans y
  replace bk_a0 := bk_a0.ext y
  replace bk_a1 := bk_a1.ext y
  replace bk_a2 := bk_a2.ext y
  replace bk_x0 := bk_x0.ext y
  replace bk_x1 := bk_x1.ext y
  replace o_x0 := o_x0.ext y
  replace o_x1 := o_x1.ext y
  have ll18 := y.le
  refine ⟨_, _, _, _, _, rfl, ?_⟩
  intro r_x2 W18 hn
  have er_x2 := hn.r_eq; have sr_x2 := hn.size
  have y := hn.ext
  replace x := x.trans y
  replace xS := xS.trans y
  replace bk_a0 := bk_a0.ext y
  replace bk_a1 := bk_a1.ext y
  replace bk_a2 := bk_a2.ext y
  replace bk_x0 := bk_x0.ext y
  replace bk_x1 := bk_x1.ext y
  replace o_x0 := o_x0.ext y
  replace o_x1 := o_x1.ext y
  replace o_x2 := o_x2.ext y
  have ll19 := y.le
  have bk_x2 := hn.blk; clear hn
  obtain ⟨W19, st, bq, ch, sz⟩ := bk_x2.storeA0 (P := P) (t := T_impl_Money) (xs := [.string tx20, .bool tx21, .slice tx22p tx22n tx22c]) (by kernel_rfl) rfl o_x2.reps.cells1
  replace x := x.chg ch (by simp; omega)
  replace xS := xS.chg ch (by simp; omega)
  replace bk_a0 := bk_a0.chg ch (by simp; omega)
  replace bk_a1 := bk_a1.chg ch (by simp; omega)
  replace bk_a2 := bk_a2.chg ch (by simp; omega)
  replace bk_x0 := bk_x0.chg ch (by simp; omega)
  replace bk_x1 := bk_x1.chg ch (by simp; omega)
  replace o_x0 := o_x0.chg ch (fun k hk hm => by have h1 := lt_o_x0 k hk; simp at hm; omega)
  replace o_x1 := o_x1.chg ch (fun k hk hm => by have h1 := lt_o_x1 k hk; simp at hm; omega)
  replace o_x2 := o_x2.chg ch (fun k hk hm => by have h1 := lt_o_x2 k hk; simp at hm; omega)
  have bk_x2 := bq; clear bq
  have ll20 := ch.size
  refine ⟨_, st, ?_⟩
  refine ⟨_, _, _, _, _, bk_x0.loadA0 (by kernel_rfl), ?_⟩
  refine ⟨_, _, _, _, _, bk_x1.loadA0 (by kernel_rfl), ?_⟩
  refine ⟨_, _, _, _, _, bk_x2.loadA0 (by kernel_rfl), ?_⟩
  refine Ret.at (impl_Plan_c o_x0.reps rfl o_x1.reps rfl o_x2.reps rfl a3 a4 (ht.ext x)) ?_
  rintro v W20 ⟨p_g0, m_g0, c_g0, f_g0, hv, o_g0, co_g0, ct_g0, y⟩
  subst hv
  have tn_g0 := cntL_nn ct_g0
  have lt_o_g0 : ∀ k ∈ f_g0, W19.heap.size ≤ k ∧ k < W20.heap.size := o_g0.lt
  replace x := x.trans y
  replace xS := xS.trans y
  replace bk_a0 := bk_a0.ext y
  replace bk_a1 := bk_a1.ext y
  replace bk_a2 := bk_a2.ext y
  replace bk_x0 := bk_x0.ext y
  replace bk_x1 := bk_x1.ext y
  replace bk_x2 := bk_x2.ext y
  replace o_x0 := o_x0.ext y
  replace o_x1 := o_x1.ext y
  replace o_x2 := o_x2.ext y
  have ll21 := y.le
  refine ⟨_, _, _, _, rfl, ?_⟩
  refine Ret.at (laws_eqRowS_c o_g0.rows (o_w0.ext xS) co_g0 co_w0) ?_
  rintro v W21 ⟨hv, y⟩
  subst hv
  replace x := x.trans y
  replace xS := xS.trans y
  replace bk_a0 := bk_a0.ext y
  replace bk_a1 := bk_a1.ext y
  replace bk_a2 := bk_a2.ext y
  replace bk_x0 := bk_x0.ext y
  replace bk_x1 := bk_x1.ext y
  replace bk_x2 := bk_x2.ext y
  replace o_x0 := o_x0.ext y
  replace o_x1 := o_x1.ext y
  replace o_x2 := o_x2.ext y
  replace o_g0 := o_g0.ext y
  have ll22 := y.le
  refine ⟨_, rfl, ifN (fun h => absurd h (by simp)) (fun _ => ?_)⟩
  refine ⟨fun h => absurd h (bne_no rfl), fun _ => ?_⟩
  unfold laws_FnExactPlan_j0
  refine ⟨_, _, _, _, _, fun W' hW => (bk_x0.ext ((Ext.drew _).trans hW)).loadA0 (by kernel_rfl), _, _, _, _, _, fun W' hW => (bk_a0.ext ((Ext.drew _).trans hW)).loadA0 (by kernel_rfl), ?_⟩
  have y := Ext.drew W21
  replace x := x.trans y
  replace xS := xS.trans y
  replace bk_a0 := bk_a0.ext y
  replace bk_a1 := bk_a1.ext y
  replace bk_a2 := bk_a2.ext y
  replace bk_x0 := bk_x0.ext y
  replace bk_x1 := bk_x1.ext y
  replace bk_x2 := bk_x2.ext y
  replace o_x0 := o_x0.ext y
  replace o_x1 := o_x1.ext y
  replace o_x2 := o_x2.ext y
  replace o_g0 := o_g0.ext y
  have ll23 := y.le
  refine Ret.at (laws_toMoney_c (hr0.ext x) rfl (by simp only [bulks, D0.bulk, List.map_cons, List.map_nil, List.sum_cons, List.sum_nil]; omega)) ?_
  rintro v W22 ⟨vs, f_y0, hv, o_y0, nd_y0, y⟩
  subst hv
  obtain ⟨ty00, ty01, ty02p, ty02n, ty02c, ty02z, rfl, hdy0, ty02h⟩ := open_Money o_y0.reps rfl
  have lt_o_y0 : ∀ k ∈ f_y0, W21.heap.size ≤ k ∧ k < W22.heap.size := o_y0.lt
  have y2 := y
  replace x := x.trans y
  replace xS := xS.trans y
  replace bk_a0 := bk_a0.ext y
  replace bk_a1 := bk_a1.ext y
  replace bk_a2 := bk_a2.ext y
  replace bk_x0 := bk_x0.ext y
  replace bk_x1 := bk_x1.ext y
  replace bk_x2 := bk_x2.ext y
  replace o_x0 := o_x0.ext y
  replace o_x1 := o_x1.ext y
  replace o_x2 := o_x2.ext y
  replace o_g0 := o_g0.ext y
  have ll24 := y.le
  refine ⟨_, _, _, _, _, rfl, y, ?_⟩
  refine Ret.at (laws_eqMoney_c o_x0.reps o_y0.reps rfl rfl) ?_
  rintro v W23 ⟨hv, y⟩
  subst hv
  replace x := x.trans y
  replace xS := xS.trans y
  replace bk_a0 := bk_a0.ext y
  replace bk_a1 := bk_a1.ext y
  replace bk_a2 := bk_a2.ext y
  replace bk_x0 := bk_x0.ext y
  replace bk_x1 := bk_x1.ext y
  replace bk_x2 := bk_x2.ext y
  replace o_x0 := o_x0.ext y
  replace o_x1 := o_x1.ext y
  replace o_x2 := o_x2.ext y
  replace o_g0 := o_g0.ext y
  have ll25 := y.le
  refine ⟨_, rfl, ifN (fun h => absurd h (by simp)) (fun _ => ?_)⟩
  refine ⟨_, _, _, _, _, fun W' hW => (bk_x1.ext ((Ext.drew _).trans hW)).loadA0 (by kernel_rfl), _, _, _, _, _, fun W' hW => (bk_a1.ext ((Ext.drew _).trans hW)).loadA0 (by kernel_rfl), ?_⟩
  have y := Ext.drew W23
  replace x := x.trans y
  replace xS := xS.trans y
  replace bk_a0 := bk_a0.ext y
  replace bk_a1 := bk_a1.ext y
  replace bk_a2 := bk_a2.ext y
  replace bk_x0 := bk_x0.ext y
  replace bk_x1 := bk_x1.ext y
  replace bk_x2 := bk_x2.ext y
  replace o_x0 := o_x0.ext y
  replace o_x1 := o_x1.ext y
  replace o_x2 := o_x2.ext y
  replace o_g0 := o_g0.ext y
  have ll26 := y.le
  refine Ret.at (laws_toDec_c (hr1.ext x) rfl (by simp only [bulks, D0.bulk, List.map_cons, List.map_nil, List.sum_cons, List.sum_nil]; omega)) ?_
  rintro v W24 ⟨vs, f_y1, hv, o_y1, nd_y1, y⟩
  subst hv
  obtain ⟨ty10, ty11p, ty11n, ty11c, ty11z, ty12, rfl, hdy1, ty11h⟩ := open_Dec o_y1.reps rfl
  have lt_o_y1 : ∀ k ∈ f_y1, W23.heap.size ≤ k ∧ k < W24.heap.size := o_y1.lt
  have y2 := y
  replace x := x.trans y
  replace xS := xS.trans y
  replace bk_a0 := bk_a0.ext y
  replace bk_a1 := bk_a1.ext y
  replace bk_a2 := bk_a2.ext y
  replace bk_x0 := bk_x0.ext y
  replace bk_x1 := bk_x1.ext y
  replace bk_x2 := bk_x2.ext y
  replace o_x0 := o_x0.ext y
  replace o_x1 := o_x1.ext y
  replace o_x2 := o_x2.ext y
  replace o_g0 := o_g0.ext y
  have ll27 := y.le
  refine ⟨_, _, _, _, _, rfl, y, ?_⟩
  refine Ret.at (laws_eqDec_c o_x1.reps o_y1.reps rfl rfl) ?_
  rintro v W25 ⟨hv, y⟩
  subst hv
  replace x := x.trans y
  replace xS := xS.trans y
  replace bk_a0 := bk_a0.ext y
  replace bk_a1 := bk_a1.ext y
  replace bk_a2 := bk_a2.ext y
  replace bk_x0 := bk_x0.ext y
  replace bk_x1 := bk_x1.ext y
  replace bk_x2 := bk_x2.ext y
  replace o_x0 := o_x0.ext y
  replace o_x1 := o_x1.ext y
  replace o_x2 := o_x2.ext y
  replace o_g0 := o_g0.ext y
  have ll28 := y.le
  refine ⟨_, rfl, ifN (fun h => absurd h (by simp)) (fun _ => ?_)⟩
  refine ⟨_, _, _, _, _, fun W' hW => (bk_x2.ext ((Ext.drew _).trans hW)).loadA0 (by kernel_rfl), _, _, _, _, _, fun W' hW => (bk_a2.ext ((Ext.drew _).trans hW)).loadA0 (by kernel_rfl), ?_⟩
  have y := Ext.drew W25
  replace x := x.trans y
  replace xS := xS.trans y
  replace bk_a0 := bk_a0.ext y
  replace bk_a1 := bk_a1.ext y
  replace bk_a2 := bk_a2.ext y
  replace bk_x0 := bk_x0.ext y
  replace bk_x1 := bk_x1.ext y
  replace bk_x2 := bk_x2.ext y
  replace o_x0 := o_x0.ext y
  replace o_x1 := o_x1.ext y
  replace o_x2 := o_x2.ext y
  replace o_g0 := o_g0.ext y
  have ll29 := y.le
  refine Ret.at (laws_toMoney_c (hr2.ext x) rfl (by simp only [bulks, D0.bulk, List.map_cons, List.map_nil, List.sum_cons, List.sum_nil]; omega)) ?_
  rintro v W26 ⟨vs, f_y2, hv, o_y2, nd_y2, y⟩
  subst hv
  obtain ⟨ty20, ty21, ty22p, ty22n, ty22c, ty22z, rfl, hdy2, ty22h⟩ := open_Money o_y2.reps rfl
  have lt_o_y2 : ∀ k ∈ f_y2, W25.heap.size ≤ k ∧ k < W26.heap.size := o_y2.lt
  have y2 := y
  replace x := x.trans y
  replace xS := xS.trans y
  replace bk_a0 := bk_a0.ext y
  replace bk_a1 := bk_a1.ext y
  replace bk_a2 := bk_a2.ext y
  replace bk_x0 := bk_x0.ext y
  replace bk_x1 := bk_x1.ext y
  replace bk_x2 := bk_x2.ext y
  replace o_x0 := o_x0.ext y
  replace o_x1 := o_x1.ext y
  replace o_x2 := o_x2.ext y
  replace o_g0 := o_g0.ext y
  have ll30 := y.le
  refine ⟨_, _, _, _, _, rfl, y, ?_⟩
  refine Ret.at (laws_eqMoney_c o_x2.reps o_y2.reps rfl rfl) ?_
  rintro v W27 ⟨hv, y⟩
  subst hv
  replace x := x.trans y
  replace xS := xS.trans y
  replace bk_a0 := bk_a0.ext y
  replace bk_a1 := bk_a1.ext y
  replace bk_a2 := bk_a2.ext y
  replace bk_x0 := bk_x0.ext y
  replace bk_x1 := bk_x1.ext y
  replace bk_x2 := bk_x2.ext y
  replace o_x0 := o_x0.ext y
  replace o_x1 := o_x1.ext y
  replace o_x2 := o_x2.ext y
  replace o_g0 := o_g0.ext y
  have ll31 := y.le
  refine ⟨_, rfl, ifN (fun h => absurd h (by simp)) (fun _ => ?_)⟩
  refine ⟨_, _, _, _, _, bk_x0.loadA0 (by kernel_rfl), ?_⟩
  refine Ret.at (laws_markMoney_c o_x0 nd_x0 rfl (by first | omega | (simp only [tcnts]; omega)) (by simp only [tcnts]; omega)) ?_
  rintro v W28 ⟨hv, on, ch⟩
  simp only [tcnts] at hv
  subst hv
  replace x := x.chg ch (fun k hk => by have := lt_o_x0 k hk; omega)
  replace xS := xS.chg ch (fun k hk => by have := lt_o_x0 k hk; omega)
  replace bk_a0 := bk_a0.chg ch (fun hm => by have := lt_o_x0 _ hm; omega)
  replace bk_a1 := bk_a1.chg ch (fun hm => by have := lt_o_x0 _ hm; omega)
  replace bk_a2 := bk_a2.chg ch (fun hm => by have := lt_o_x0 _ hm; omega)
  replace bk_x0 := bk_x0.chg ch (fun hm => by have := lt_o_x0 _ hm; omega)
  replace bk_x1 := bk_x1.chg ch (fun hm => by have := lt_o_x0 _ hm; omega)
  replace bk_x2 := bk_x2.chg ch (fun hm => by have := lt_o_x0 _ hm; omega)
  replace o_x1 := o_x1.chg ch (fun k hk hm => by have h1 := lt_o_x1 k hk; have h2 := lt_o_x0 k hm; omega)
  replace o_x2 := o_x2.chg ch (fun k hk hm => by have h1 := lt_o_x2 k hk; have h2 := lt_o_x0 k hm; omega)
  replace o_g0 := o_g0.chg ch (fun k hk hm => by have h1 := lt_o_g0 k hk; have h2 := lt_o_x0 k hm; omega)
  have ll32 := ch.size
  replace o_x0 := on; clear on
  refine ⟨_, rfl, ?_⟩
  refine ⟨_, _, _, _, _, bk_x1.loadA0 (by kernel_rfl), ?_⟩
  refine Ret.at (laws_markDec_c o_x1 nd_x1 rfl (by first | omega | (simp only [tcnts]; omega)) (by simp only [tcnts]; omega)) ?_
  rintro v W29 ⟨hv, on, ch⟩
  simp only [tcnts] at hv
  subst hv
  replace x := x.chg ch (fun k hk => by have := lt_o_x1 k hk; omega)
  replace xS := xS.chg ch (fun k hk => by have := lt_o_x1 k hk; omega)
  replace bk_a0 := bk_a0.chg ch (fun hm => by have := lt_o_x1 _ hm; omega)
  replace bk_a1 := bk_a1.chg ch (fun hm => by have := lt_o_x1 _ hm; omega)
  replace bk_a2 := bk_a2.chg ch (fun hm => by have := lt_o_x1 _ hm; omega)
  replace bk_x0 := bk_x0.chg ch (fun hm => by have := lt_o_x1 _ hm; omega)
  replace bk_x1 := bk_x1.chg ch (fun hm => by have := lt_o_x1 _ hm; omega)
  replace bk_x2 := bk_x2.chg ch (fun hm => by have := lt_o_x1 _ hm; omega)
  replace o_x0 := o_x0.chg ch (fun k hk hm => by have h1 := lt_o_x0 k hk; have h2 := lt_o_x1 k hm; omega)
  replace o_x2 := o_x2.chg ch (fun k hk hm => by have h1 := lt_o_x2 k hk; have h2 := lt_o_x1 k hm; omega)
  replace o_g0 := o_g0.chg ch (fun k hk hm => by have h1 := lt_o_g0 k hk; have h2 := lt_o_x1 k hm; omega)
  have ll33 := ch.size
  replace o_x1 := on; clear on
  refine ⟨_, rfl, ?_⟩
  refine ⟨_, _, _, _, _, bk_x2.loadA0 (by kernel_rfl), ?_⟩
  refine Ret.at (laws_markMoney_c o_x2 nd_x2 rfl (by first | omega | (simp only [tcnts]; omega)) (by simp only [tcnts]; omega)) ?_
  rintro v W30 ⟨hv, on, ch⟩
  simp only [tcnts] at hv
  subst hv
  replace x := x.chg ch (fun k hk => by have := lt_o_x2 k hk; omega)
  replace xS := xS.chg ch (fun k hk => by have := lt_o_x2 k hk; omega)
  replace bk_a0 := bk_a0.chg ch (fun hm => by have := lt_o_x2 _ hm; omega)
  replace bk_a1 := bk_a1.chg ch (fun hm => by have := lt_o_x2 _ hm; omega)
  replace bk_a2 := bk_a2.chg ch (fun hm => by have := lt_o_x2 _ hm; omega)
  replace bk_x0 := bk_x0.chg ch (fun hm => by have := lt_o_x2 _ hm; omega)
  replace bk_x1 := bk_x1.chg ch (fun hm => by have := lt_o_x2 _ hm; omega)
  replace bk_x2 := bk_x2.chg ch (fun hm => by have := lt_o_x2 _ hm; omega)
  replace o_x0 := o_x0.chg ch (fun k hk hm => by have h1 := lt_o_x0 k hk; have h2 := lt_o_x2 k hm; omega)
  replace o_x1 := o_x1.chg ch (fun k hk hm => by have h1 := lt_o_x1 k hk; have h2 := lt_o_x2 k hm; omega)
  replace o_g0 := o_g0.chg ch (fun k hk hm => by have h1 := lt_o_g0 k hk; have h2 := lt_o_x2 k hm; omega)
  have ll34 := ch.size
  replace o_x2 := on; clear on
  refine ⟨_, rfl, ?_⟩
  refine ifD (fun h => absurd h (by omega)) (fun _ => ?_)
  refine Ret.at (laws_eqRowS_c o_g0.rows (o_w0.ext xS) co_g0 co_w0) ?_
  rintro v W31 ⟨hv, y⟩
  subst hv
  replace x := x.trans y
  replace xS := xS.trans y
  replace bk_a0 := bk_a0.ext y
  replace bk_a1 := bk_a1.ext y
  replace bk_a2 := bk_a2.ext y
  replace bk_x0 := bk_x0.ext y
  replace bk_x1 := bk_x1.ext y
  replace bk_x2 := bk_x2.ext y
  replace o_x0 := o_x0.ext y
  replace o_x1 := o_x1.ext y
  replace o_x2 := o_x2.ext y
  replace o_g0 := o_g0.ext y
  have ll35 := y.le
  refine ⟨_, rfl, ifN (fun h => absurd h (by simp)) (fun _ => ?_)⟩
  refine ⟨fun h => absurd h (bne_no rfl), fun _ => ?_⟩
  unfold laws_FnExactPlan_j1
  refine Ret.at (laws_markRowS_c o_g0 co_g0 (by omega) (by omega)) ?_
  rintro v W32 ⟨hv, on, ch⟩
  subst hv
  replace x := x.chg ch (fun k hk => by have := lt_o_g0 k hk; omega)
  replace xS := xS.chg ch (fun k hk => by have := lt_o_g0 k hk; omega)
  replace bk_a0 := bk_a0.chg ch (fun hm => by have := lt_o_g0 _ hm; omega)
  replace bk_a1 := bk_a1.chg ch (fun hm => by have := lt_o_g0 _ hm; omega)
  replace bk_a2 := bk_a2.chg ch (fun hm => by have := lt_o_g0 _ hm; omega)
  replace bk_x0 := bk_x0.chg ch (fun hm => by have := lt_o_g0 _ hm; omega)
  replace bk_x1 := bk_x1.chg ch (fun hm => by have := lt_o_g0 _ hm; omega)
  replace bk_x2 := bk_x2.chg ch (fun hm => by have := lt_o_g0 _ hm; omega)
  replace o_x0 := o_x0.chg ch (fun k hk hm => by have h1 := lt_o_x0 k hk; have h2 := lt_o_g0 k hm; omega)
  replace o_x1 := o_x1.chg ch (fun k hk hm => by have h1 := lt_o_x1 k hk; have h2 := lt_o_g0 k hm; omega)
  replace o_x2 := o_x2.chg ch (fun k hk hm => by have h1 := lt_o_x2 k hk; have h2 := lt_o_g0 k hm; omega)
  have ll36 := ch.size
  replace o_g0 := on; clear on
  refine ⟨_, rfl, ?_⟩
  refine Ret.at (laws_heldRowS_c o_g0.rows co_g0 (by omega) (by omega)) ?_
  rintro v W33 ⟨hv, y⟩
  subst hv
  replace x := x.trans y
  replace xS := xS.trans y
  replace bk_a0 := bk_a0.ext y
  replace bk_a1 := bk_a1.ext y
  replace bk_a2 := bk_a2.ext y
  replace bk_x0 := bk_x0.ext y
  replace bk_x1 := bk_x1.ext y
  replace bk_x2 := bk_x2.ext y
  replace o_x0 := o_x0.ext y
  replace o_x1 := o_x1.ext y
  replace o_x2 := o_x2.ext y
  replace o_g0 := o_g0.ext y
  have ll37 := y.le
  refine ⟨_, rfl, ifD (fun h => absurd h (by omega)) (fun _ => ?_)⟩
  refine ifD (fun h => absurd rfl h) (fun _ => ?_)
  have y := Ext.drew W33
  replace x := x.trans y
  replace xS := xS.trans y
  replace bk_a0 := bk_a0.ext y
  replace bk_a1 := bk_a1.ext y
  replace bk_a2 := bk_a2.ext y
  replace bk_x0 := bk_x0.ext y
  replace bk_x1 := bk_x1.ext y
  replace bk_x2 := bk_x2.ext y
  replace o_x0 := o_x0.ext y
  replace o_x1 := o_x1.ext y
  replace o_x2 := o_x2.ext y
  replace o_g0 := o_g0.ext y
  have ll38 := y.le
  have bd0 := bk_a0
  have bd1 := bk_a1
  have bd2 := bk_a2
  refine ⟨_, _, _, _, _, fun W' hW => (bd0.ext hW).loadA0 (by kernel_rfl), ?_⟩
  refine Ret.at (laws_toMoney_c (hr0.ext x) rfl (by simp only [bulks, D0.bulk, List.map_cons, List.map_nil, List.sum_cons, List.sum_nil]; omega)) ?_
  rintro v W34 ⟨vs, f_h0, hv, o_h0, nd_h0, y⟩
  subst hv
  obtain ⟨th00, th01, th02p, th02n, th02c, th02z, rfl, hdh0, th02h⟩ := open_Money o_h0.reps rfl
  have lt_o_h0 : ∀ k ∈ f_h0, W33.heap.size ≤ k ∧ k < W34.heap.size := o_h0.lt
  have yy := y
  replace x := x.trans y
  replace xS := xS.trans y
  replace bk_a0 := bk_a0.ext y
  replace bk_a1 := bk_a1.ext y
  replace bk_a2 := bk_a2.ext y
  replace bk_x0 := bk_x0.ext y
  replace bk_x1 := bk_x1.ext y
  replace bk_x2 := bk_x2.ext y
  replace o_x0 := o_x0.ext y
  replace o_x1 := o_x1.ext y
  replace o_x2 := o_x2.ext y
  replace o_g0 := o_g0.ext y
  have ll39 := y.le
  refine ⟨_, _, _, _, _, rfl, yy, ?_⟩
  refine ⟨_, _, _, _, _, fun W' hW => (bd1.ext hW).loadA0 (by kernel_rfl), ?_⟩
  refine Ret.at (laws_toDec_c (hr1.ext x) rfl (by simp only [bulks, D0.bulk, List.map_cons, List.map_nil, List.sum_cons, List.sum_nil]; omega)) ?_
  rintro v W35 ⟨vs, f_h1, hv, o_h1, nd_h1, y⟩
  subst hv
  obtain ⟨th10, th11p, th11n, th11c, th11z, th12, rfl, hdh1, th11h⟩ := open_Dec o_h1.reps rfl
  have lt_o_h1 : ∀ k ∈ f_h1, W34.heap.size ≤ k ∧ k < W35.heap.size := o_h1.lt
  have yy := y
  replace x := x.trans y
  replace xS := xS.trans y
  replace bk_a0 := bk_a0.ext y
  replace bk_a1 := bk_a1.ext y
  replace bk_a2 := bk_a2.ext y
  replace bk_x0 := bk_x0.ext y
  replace bk_x1 := bk_x1.ext y
  replace bk_x2 := bk_x2.ext y
  replace o_x0 := o_x0.ext y
  replace o_x1 := o_x1.ext y
  replace o_x2 := o_x2.ext y
  replace o_g0 := o_g0.ext y
  replace o_h0 := o_h0.ext y
  have ll40 := y.le
  refine ⟨_, _, _, _, _, rfl, yy, ?_⟩
  refine ⟨_, _, _, _, _, fun W' hW => (bd2.ext hW).loadA0 (by kernel_rfl), ?_⟩
  refine Ret.at (laws_toMoney_c (hr2.ext x) rfl (by simp only [bulks, D0.bulk, List.map_cons, List.map_nil, List.sum_cons, List.sum_nil]; omega)) ?_
  rintro v W36 ⟨vs, f_h2, hv, o_h2, nd_h2, y⟩
  subst hv
  obtain ⟨th20, th21, th22p, th22n, th22c, th22z, rfl, hdh2, th22h⟩ := open_Money o_h2.reps rfl
  have lt_o_h2 : ∀ k ∈ f_h2, W35.heap.size ≤ k ∧ k < W36.heap.size := o_h2.lt
  have yy := y
  replace x := x.trans y
  replace xS := xS.trans y
  replace bk_a0 := bk_a0.ext y
  replace bk_a1 := bk_a1.ext y
  replace bk_a2 := bk_a2.ext y
  replace bk_x0 := bk_x0.ext y
  replace bk_x1 := bk_x1.ext y
  replace bk_x2 := bk_x2.ext y
  replace o_x0 := o_x0.ext y
  replace o_x1 := o_x1.ext y
  replace o_x2 := o_x2.ext y
  replace o_g0 := o_g0.ext y
  replace o_h0 := o_h0.ext y
  replace o_h1 := o_h1.ext y
  have ll41 := y.le
  refine ⟨_, _, _, _, _, rfl, ?_⟩
  refine Ret.at (impl_Plan_c o_h0.reps rfl o_h1.reps rfl o_h2.reps rfl a3 a4 (ht.ext x)) ?_
  rintro v W37 ⟨p_h0, m_h0, c_h0, f_h0, hv, o_h0, co_h0, ct_h0, y⟩
  subst hv
  have tn_h0 := cntL_nn ct_h0
  have lt_o_h0 : ∀ k ∈ f_h0, W36.heap.size ≤ k ∧ k < W37.heap.size := o_h0.lt
  replace x := x.trans y
  replace xS := xS.trans y
  replace bk_a0 := bk_a0.ext y
  replace bk_a1 := bk_a1.ext y
  replace bk_a2 := bk_a2.ext y
  replace bk_x0 := bk_x0.ext y
  replace bk_x1 := bk_x1.ext y
  replace bk_x2 := bk_x2.ext y
  replace o_x0 := o_x0.ext y
  replace o_x1 := o_x1.ext y
  replace o_x2 := o_x2.ext y
  replace o_g0 := o_g0.ext y
  have ll42 := y.le
  refine ⟨_, _, _, _, rfl, ?_⟩
  refine Ret.at (laws_eqRowS_c o_h0.rows (o_w0.ext xS) co_h0 co_w0) ?_
  rintro v W38 ⟨hv, y⟩
  subst hv
  replace x := x.trans y
  replace xS := xS.trans y
  replace bk_a0 := bk_a0.ext y
  replace bk_a1 := bk_a1.ext y
  replace bk_a2 := bk_a2.ext y
  replace bk_x0 := bk_x0.ext y
  replace bk_x1 := bk_x1.ext y
  replace bk_x2 := bk_x2.ext y
  replace o_x0 := o_x0.ext y
  replace o_x1 := o_x1.ext y
  replace o_x2 := o_x2.ext y
  replace o_g0 := o_g0.ext y
  replace o_h0 := o_h0.ext y
  have ll43 := y.le
  refine ⟨_, rfl, ifN (fun h => absurd h (by simp)) (fun _ => ?_)⟩
  refine ⟨fun h => absurd h (bne_no rfl), fun _ => ?_⟩
  unfold laws_FnExactPlan_j2
  refine Ret.at (laws_heldRowS_c o_g0.rows co_g0 (by omega) (by omega)) ?_
  rintro v W39 ⟨hv, y⟩
  subst hv
  replace x := x.trans y
  replace xS := xS.trans y
  replace bk_a0 := bk_a0.ext y
  replace bk_a1 := bk_a1.ext y
  replace bk_a2 := bk_a2.ext y
  replace bk_x0 := bk_x0.ext y
  replace bk_x1 := bk_x1.ext y
  replace bk_x2 := bk_x2.ext y
  replace o_x0 := o_x0.ext y
  replace o_x1 := o_x1.ext y
  replace o_x2 := o_x2.ext y
  replace o_g0 := o_g0.ext y
  replace o_h0 := o_h0.ext y
  have ll44 := y.le
  refine ⟨_, rfl, ifD (fun h => absurd h (by omega)) (fun _ => ?_)⟩
  refine ifD (fun h => absurd rfl h) (fun _ => ?_)
  exact ⟨rfl, x⟩
end Go.Proofs.YtfehpaekbbmkcaaGreatDoor

namespace Go.Proofs.YtfehpaekbbmkcaaGreatDoor.Sx
open Go Go.RowKit Go.ChangeShapes Go.WideShapes
set_option linter.unusedVariables false
set_option linter.unusedSimpArgs false
def rowedV (P : Program) (ns : List String) : Bool := ns.all fun n => ((P.globalNamed n).bind (P.globals[·]?)).all fun gl => P.readableRec gl.type && decide (gl.type < P.types.size)
section
variable {H : Type} {enc : TypeId × Value → H} {P : Program}
theorem trodAll_ext (hl : laidOutB P = true) {W W' : World} (hb : Ext W W') (sp' : Nat → Bool) : ∀ {ts : List TypeId} {vs : List Value} {ds : List (DataW H)} {ps : List MemPlace},
    (∀ t ∈ ts, P.readableRec t = true ∧ t < P.types.size) → (∀ p ∈ ps, p.block < W.heap.size) → (∀ p ∈ ps, sp' p.block = true) →
    DataW.TrodAll enc P W 0 (fun _ => true) true ts vs ds ps → DataW.TrodAll enc P W' 0 sp' true ts vs ds ps
  | [], _, _, _, _, _, _, h => by
    obtain ⟨rfl, rfl, rfl⟩ := trodAll_nil h
    exact rfl
  | t :: ts, _, _, _, hr, hlt, hsp, h => by
    obtain ⟨v, vs1, d, ds1, a, b, rfl, rfl, rfl, h1, h2⟩ := trodAll_cons h
    have hrt := hr t (by simp)
    exact ⟨a, b, WideElems.Trod_stays hl hrt.1 hrt.2 h1 (fun x hx => Below.same hb (hlt x (by simp [hx]))) (fun x hx => hsp x (by simp [hx])),
      trodAll_ext hl hb sp' (fun u hu => hr u (by simp [hu])) (fun x hx => hlt x (by simp [hx])) (fun x hx => hsp x (by simp [hx])) h2, rfl⟩
theorem trodVars_sp (hl : laidOutB P = true) {W W' : World} (hb : Ext W W') (sp' : Nat → Bool) :
    ∀ {ns : List String} {gs : List (DataW H)} {ps : List MemPlace}, rowedV P ns = true → (∀ p ∈ ps, sp' p.block = true) → DataW.TrodVars enc P W (fun _ => true) ns gs ps → DataW.TrodVars enc P W' sp' ns gs ps
  | [], [], _, _, _, h => h
  | [], _ :: _, _, _, _, h => h.elim
  | _ :: _, [], _, _, _, h => h.elim
  | n :: ns, d :: ds, ps, hv, hsp, h => by
    have hlt := h.lt
    obtain ⟨g, t, cs, fuel, p, q, h1, h2, h3, h4, hs, e⟩ := h
    simp only [rowedV, List.all_cons, Bool.and_eq_true] at hv
    have ht : P.readableRec t = true ∧ t < P.types.size := by
      have := hv.1
      rw [h1] at this
      cases hg : P.globals[g]? with
      | none => rw [hg] at h2; cases h2
      | some gl =>
        rw [hg] at h2
        obtain rfl : gl.type = t := Option.some.inj h2
        simpa [hg] using this
    have hp : ∀ x ∈ p, x.block < W.heap.size := fun x hx => hlt x (by rw [e]; simp [hx])
    have h3' : W'.var? P n = some cs := by
      unfold World.var? at h3 ⊢
      rw [h1] at h3 ⊢
      simp only [Option.bind_some] at h3 ⊢
      have hg : g < W.heap.size := by
        cases hh : W.heap[g]? with
        | none => rw [hh] at h3; cases h3
        | some o => exact (Array.getElem?_eq_some_iff.1 hh).1
      rw [hb.block g hg]; exact h3
    exact ⟨g, t, cs, fuel, p, q, h1, h2, h3', DataW.trod_stays (kids_book hl ht.1) (book_sized ht.1) (fun h => by cases h) ⟨ht.2, book_self t⟩ h4 (fun x hx => Below.same hb (hp x hx)) (fun x hx => hsp x (by rw [e]; simp [hx])),
      trodVars_sp hl hb sp' (by simpa [rowedV] using hv.2) (fun x hx => hsp x (by rw [e]; simp [hx])) hs, e⟩
theorem post_of_ext {f : Func} {s : ChangeSpec} {apart fresh handsOn again : Bool} {W W' : World} {args : Array Value} {ds gs : List (DataW H)} {before : List MemPlace} {tb : TypeId}
    (hl : laidOutB P = true) (hpar : ∀ t ∈ f.params.toList, P.readableRec t = true ∧ t < P.types.size) (hvr : rowedV P s.vars = true)
    (hrt : f.resultTypes = #[tb]) (htb : P.underlying tb = some .bool)
    (hW : DataW.Whole enc P f.params.toList s.vars apart W args.toList ds gs before) (hx : Ext W W')
    (hfn : s.fn H (ds ++ gs) = { results := [.lit (.bool true)], args := ds, vars := gs }) :
    s.post enc P f apart fresh handsOn again W args (.bool true) W' := by
  have hW0 := hW
  have hlt : ∀ p ∈ before, p.block < W.heap.size := hW.lt
  obtain ⟨pa, pv, hA, hV, rfl, hz, hn⟩ := hW
  have hlta : ∀ p ∈ pa, p.block < W.heap.size := fun p hp => hlt p (by simp [hp])
  have hltv : ∀ p ∈ pv, p.block < W.heap.size := fun p hp => hlt p (by simp [hp])
  have hr : (Value.bool true).resultList f.resultTypes.size = [Value.bool true] := by rw [hrt]; rfl
  refine ⟨ds, gs, pa ++ pv, [], pa, pv, hW0, ?_, ?_, ?_, Below.frame hx _, fun _ => ?_⟩
  · rw [hfn, hr, hrt]
    exact trodAll_mk1 (shut_bool htb _)
  · rw [hfn]
    exact trodAll_ext hl hx _ hpar hlta (fun p hp => by simpa using hlta p hp) hA
  · rw [hfn]
    exact trodVars_sp hl hx _ hvr (fun p hp => by simpa using hltv p hp) hV
  · refine ⟨?_, (.lit (.bool true)) :: ds, gs, pa ++ pv, ⟨[] ++ pa, pv, ?_, ?_, by simp, ?_, ?_⟩, fun p hp _ => hp⟩
    · rw [hr, hrt]
      exact ok_one (f := { f with resultTypes := #[tb] }) rfl rfl (okWide_bool_mk htb _)
    · rw [hr, hrt]
      exact trodAll_append (trodAll_ext hl hx _ hpar hlta (fun _ _ => rfl) hA) (trodAll_mk1 (shut_bool htb _))
    · exact trodVars_sp hl hx _ hvr (fun _ _ => rfl) hV
    · intro b off hp
      have := hlt _ hp
      rw [Below.frozen hx (p := ⟨b, off, none⟩) this]
      exact hz b off hp
    · exact hn
end
end Go.Proofs.YtfehpaekbbmkcaaGreatDoor.Sx

namespace Go.Proofs.YtfehpaekbbmkcaaGreatDoor.Sx
open Go Go.RowKit Go.ChangeShapes Go.WideShapes
set_option linter.unusedVariables false
set_option linter.unusedSimpArgs false
def flatF (P : Program) (g : TypeId → Option (List C0)) : Nat → List Field → Option (List C0)
  | _, [] => some []
  | o, f :: r => match Nat.beq f.offset o, g f.type with
    | true, some a => match Nat.beq (P.cellsOf f.type) a.length, flatF P g (o + a.length) r with
      | true, some b => some (a ++ b)
      | _, _ => none
    | _, _ => none
def flatC (P : Program) : Nat → TypeId → Option (List C0)
  | 0, _ => none
  | n + 1, t => match P.underlying t with
    | some .bool => some [.bool]
    | some (.int .i64) => some [.int]
    | some .string => some [.str]
    | some (.slice e) => match P.underlying e, P.cellsOf e with
      | some (.int .i64), 1 => some [.ints]
      | _, _ => none
    | some (.struct fs) => match flatF P (flatC P n) 0 fs.toList with
      | some a => if Nat.beq (P.cellsOf t) a.length then some a else none
      | none => none
    | _ => none
section
variable {H : Type} {enc : TypeId × Value → H} {P : Program} {w : World}
theorem spot_none {a : Addr} {v : Value} (h : w.cell? a = some v) : a = ⟨a.block, a.off, none⟩ := by
  obtain ⟨b, o, spot⟩ := a
  have : spot = none := by simpa using World.cell?_spot h
  subst this; rfl
theorem ints_of_trod {t e : TypeId} {fuel : Nat} {sp : Nat → Bool} {hd : Bool} {cs : List Value} {x : DataW H × List MemPlace} (ht : P.underlying t = some (.slice e)) (he : P.underlying e = some (.int .i64)) (hc : P.cellsOf e = 1)
    (h : DataW.trod enc P w 0 sp hd fuel t cs = some x) : ∃ p n c zs, cs = [.slice p n c] ∧ IntsR w p n c zs ∧ zs.length ≤ 9223372036854775807 := by
  rcases Go.ChangeShapes.open_ints ht he hc h with ⟨rfl, _⟩ | ⟨a, len, cap, zs, rfl, _, hl, hm, hz, _, hcell, _⟩
  · exact ⟨none, 0, 0, [], rfl, ⟨rfl, Nat.le_refl _, by omega, fun h => absurd h (by omega)⟩, by simp⟩
  · have hlz : len ≤ zs.length := by rw [hz]; split <;> omega
    refine ⟨some a, len, cap, zs.take len, rfl, ⟨by simp; omega, hl, by simpa [maxLen] using hm, fun hpos => ?_⟩, by simp only [maxLen] at hm; simp; omega⟩
    have h0 := hcell 0 (by omega)
    have hs := spot_none h0
    have ha : a = ⟨a.block, a.off, none⟩ := by
      obtain ⟨b, o, s⟩ := a
      simp [Addr.add] at hs
      simp [hs]
    refine ⟨a.block, a.off, by rw [← ha], fun j v hj => ?_⟩
    simp only [List.getElem?_map, List.getElem?_take] at hj
    split at hj
    · rename_i hjl
      have hjz : j < zs.length := by omega
      have := hcell j hjz
      rw [ha, addr_add] at this
      rw [this]
      rw [List.getElem?_eq_getElem hjz] at hj
      simp at hj
      rw [← hj]
      simp [hjz]
    · simp at hj
theorem flatF_open {g : TypeId → Option (List C0)} {n : Nat} {sp : Nat → Bool} {hd : Bool}
    (ih : ∀ {t : TypeId} {ks : List C0} {cs : List Value} {x : DataW H × List MemPlace}, g t = some ks → DataW.trod enc P w 0 sp hd n t cs = some x → ∃ ds, Reps w cs ds ∧ ds.map D0.code = ks ∧ ∀ d ∈ ds, d.ok) :
    ∀ (fs : List Field) (o : Nat) (ks : List C0) (cs : List Value), flatF P g o fs = some ks → cs.length = o + ks.length →
      (∀ f ∈ fs, ∃ x, DataW.trod enc P w 0 sp hd n f.type ((cs.drop f.offset).take (P.cellsOf f.type)) = some x) → ∃ ds, Reps w (cs.drop o) ds ∧ ds.map D0.code = ks ∧ ∀ d ∈ ds, d.ok
  | [], o, ks, cs, hf, hl, _ => by
    simp only [flatF, Option.some.injEq] at hf
    subst hf
    rw [List.drop_of_length_le (by simp at hl; omega)]
    exact ⟨[], trivial, rfl, by simp⟩
  | f :: r, o, ks, cs, hf, hl, hx => by
    simp only [flatF] at hf
    split at hf
    · rename_i a h1 h2
      split at hf
      · rename_i b h3 h4
        have h1' := Nat.eq_of_beq_eq_true h1
        have h3' := Nat.eq_of_beq_eq_true h3
        cases hf
        rw [List.length_append] at hl
        obtain ⟨x, hx0⟩ := hx f (by simp)
        obtain ⟨ds, r1, c1, k1⟩ := ih h2 hx0
        obtain ⟨es, r2, c2, k2⟩ := flatF_open ih r (o + a.length) b cs h4 (by omega) (fun f' hf' => hx f' (by simp [hf']))
        refine ⟨ds ++ es, ?_, by simp [c1, c2], fun d hd => ?_⟩
        · rw [h1', h3'] at r1
          have : cs.drop o = (cs.drop o).take a.length ++ cs.drop (o + a.length) := by
            rw [← List.drop_drop, List.take_append_drop]
          rw [this]
          exact r1.append r2
        · rcases List.mem_append.1 hd with h | h
          · exact k1 d h
          · exact k2 d h
      · cases hf
    · cases hf
theorem flat_open {sp : Nat → Bool} {hd : Bool} : ∀ (m : Nat) {fuel : Nat} {t : TypeId} {ks : List C0} {cs : List Value} {x : DataW H × List MemPlace}, flatC P m t = some ks → DataW.trod enc P w 0 sp hd fuel t cs = some x →
    ∃ ds, Reps w cs ds ∧ ds.map D0.code = ks ∧ ∀ d ∈ ds, d.ok
  | 0, _, _, _, _, _, h, _ => by cases h
  | m + 1, fuel, t, ks, cs, x, h, ht => by
    simp only [flatC] at h
    split at h
    · rename_i hu
      obtain ⟨b, rfl, _⟩ := DataW.trod_bool hu ht
      cases h
      exact ⟨[.bool b], ⟨rfl, trivial⟩, rfl, by simp [D0.ok]⟩
    · rename_i hu
      obtain ⟨b, rfl, _, hw⟩ := DataW.trod_int hu ht
      cases h
      refine ⟨[.int b], ⟨rfl, trivial⟩, rfl, ?_⟩
      simp only [List.mem_singleton, forall_eq, D0.ok]
      simp [Lit.wf, IntKind.min, IntKind.max, IntKind.bits, IntKind.signed] at hw
      omega
    · rename_i hu
      obtain ⟨s, rfl, _, hw⟩ := DataW.trod_string hu ht
      cases h
      exact ⟨[.str s], ⟨rfl, trivial⟩, rfl, by simpa [D0.ok, maxLen] using hw⟩
    · rename_i e hu
      split at h
      · rename_i he hc
        cases h
        obtain ⟨p, n, c, zs, rfl, hr, hz⟩ := ints_of_trod hu he hc ht
        exact ⟨[.ints zs], ⟨⟨p, n, c, rfl, hr⟩, trivial⟩, rfl, by simpa [D0.ok] using hz⟩
      · cases h
    · rename_i fs hu
      split at h
      · rename_i a hf
        split at h
        · rename_i hsz
          cases h
          obtain ⟨xs, n, rfl, _, hlen, hxl, hfs⟩ := DataW.trod_struct hu ht
          have hsz' := Nat.eq_of_beq_eq_true hsz
          have := flatF_open (fun h1 h2 => flat_open m h1 h2) fs.toList 0 ks cs hf (by omega) (fun f hf => by
            obtain ⟨i, hi⟩ := List.getElem?_of_mem hf
            have hil : i < fs.size := by simpa using (List.getElem?_eq_some_iff.1 hi).1
            have := hfs i f (by simpa using hi)
            rw [List.getElem?_eq_getElem (by omega)] at this
            exact ⟨_, this⟩)
          simpa using this
        · cases h
      · cases h
    · cases h
end
end Go.Proofs.YtfehpaekbbmkcaaGreatDoor.Sx

namespace Go.Proofs.YtfehpaekbbmkcaaGreatDoor
open Go Go.Proofs.YtfehpaekbbmkcaaGreatDoor.Sx
set_option linter.unusedVariables false
set_option linter.unusedSimpArgs false
def curData {H : Type} (r : CurRow) : DataW H := .agg [.lit (.string r.1.data.toList), .lit (.string r.2.1.data.toList), .lit (.int .i64 r.2.2.1), .lit (.int .i64 r.2.2.2)]
theorem bytes_eq {a b : ByteArray} (h : a.data.toList = b.data.toList) : a = b := by
  obtain ⟨⟨x⟩⟩ := a; obtain ⟨⟨y⟩⟩ := b
  simp at h; subst h; rfl
set_option maxRecDepth 100000 in
theorem cur_cells {H : Type} {enc : TypeId × Value → H} {w : World} {sp : Nat → Bool} {hd : Bool} {fuel : Nat} {cs : List Value} {r : CurRow} {p : List MemPlace}
    (h : DataW.trod enc P w 0 sp hd fuel T_impl_currency cs = some (curData r, p)) : cs = curCells r := by
  obtain ⟨fs, hu, hsz, ⟨f0, e0, t0, o0⟩, ⟨f1, e1, t1, o1⟩, ⟨f2, e2, t2, o2⟩, ⟨f3, e3, t3, o3⟩⟩ := cur_fields
  have hu : P.underlying T_impl_currency = some (.struct fs) := hu
  have hs : P.underlying T_string = some .string := by kernel_rfl
  have hi : P.underlying T_int = some (.int .i64) := by kernel_rfl
  have cS : P.cellsOf T_string = 1 := by kernel_rfl
  have cI : P.cellsOf T_int = 1 := by kernel_rfl
  have cC : P.cellsOf T_impl_currency = 4 := by kernel_rfl
  obtain ⟨xs, n, rfl, hx, hlen, hxl, hf⟩ := DataW.trod_struct hu h
  rw [cC] at hlen
  rw [hsz] at hxl
  have h0 := hf 0 f0 e0; have h1 := hf 1 f1 e1; have h2 := hf 2 f2 e2; have h3 := hf 3 f3 e3
  rw [t0, o0, cS] at h0; rw [t1, o1, cS] at h1; rw [t2, o2, cI] at h2; rw [t3, o3, cI] at h3
  match cs, hlen, xs, hxl, hx, h0, h1, h2, h3 with
  | [c0, c1, c2, c3], _, [x0, x1, x2, x3], _, hx, h0, h1, h2, h3 =>
    simp only [List.drop_succ_cons, List.drop_zero, List.take_succ_cons, List.take_zero, List.getElem?_cons_zero, List.getElem?_cons_succ] at h0 h1 h2 h3
    obtain ⟨s0, a0, b0, _⟩ := DataW.trod_string hs h0
    obtain ⟨s1, a1, b1, _⟩ := DataW.trod_string hs h1
    obtain ⟨z2, a2, b2, _⟩ := DataW.trod_int hi h2
    obtain ⟨z3, a3, b3, _⟩ := DataW.trod_int hi h3
    simp only [Prod.mk.injEq, curData, DataW.agg.injEq, List.map_cons, List.map_nil, List.cons.injEq, b0, b1, b2, b3, DataW.lit.injEq, Lit.string.injEq, Lit.int.injEq, true_and, and_true] at hx
    simp only [List.cons.injEq, and_true] at a0 a1 a2 a3
    obtain ⟨⟨q0, q1, q2, q3⟩, _⟩ := hx
    rw [a0, a1, a2, a3, ← bytes_eq q0, ← bytes_eq q1, ← q2, ← q3]
    rfl
theorem flat_of_rows : ∀ (l : List CurRow) (cs : List Value), cs.length = l.length * 4 → (∀ i (hi : i < l.length), (cs.drop (i * 4)).take 4 = curCells (l[i]'hi)) → cs = l.flatMap curCells
  | [], cs, h, _ => by simpa using h
  | r :: l, cs, h, hr => by
    have h0 := hr 0 (by simp)
    simp only [Nat.zero_mul, List.drop_zero, List.getElem_cons_zero] at h0
    rw [List.flatMap_cons, ← h0, ← flat_of_rows l (cs.drop 4) (by simp at h ⊢; omega) (fun i hi => by
      have := hr (i + 1) (by simpa using hi)
      rw [List.drop_drop, show 4 + i * 4 = (i + 1) * 4 by omega]
      simpa using this), List.take_append_drop]
def curVar : String := "loop.example/g00793/impl.currencies"
set_option maxRecDepth 100000 in
theorem tab_of_head {W : World} {rest : List (String × DataW Unit)} (h : laidMet P ((curVar, Rows.laid_loop_example_g00793_impl_currencies) :: rest) W) : Tab W := by
  obtain ⟨ps, ⟨g, t, cs, fuel, p, q, hg, ht, hvar, hd, _, _⟩, _⟩ := h
  have hg0 : P.globalNamed curVar = some 0 := by kernel_rfl
  have ht0 : (P.globals[0]?).map (·.type) = some T_20_impl_currency := by kernel_rfl
  obtain rfl := Option.some.inj (hg0.symm.trans hg)
  obtain rfl := Option.some.inj (ht0.symm.trans ht)
  have hu : P.underlying T_20_impl_currency = some (.array 20 T_impl_currency) := und_T_20_impl_currency
  have cC : P.cellsOf T_impl_currency = 4 := by kernel_rfl
  have cA : P.cellsOf T_20_impl_currency = 80 := by kernel_rfl
  obtain ⟨xs, m, rfl, hx, hlen, hxl, hf⟩ := DataW.trod_array hu hd
  rw [cA] at hlen
  have hdat : (Rows.laid_loop_example_g00793_impl_currencies : DataW Unit) = .agg (implTab.map curData) := by rfl
  rw [hdat] at hx
  simp only [Prod.mk.injEq, DataW.agg.injEq] at hx
  have hl := impl_length
  have hcs : cs.toList = implTab.flatMap curCells := by
    refine flat_of_rows implTab _ (by omega) fun i hi => ?_
    have h1 := hf i (by omega)
    rw [cC] at h1
    have h2 : (xs.map (·.1))[i]? = some (curData (implTab[i]'hi)) := by rw [← hx.1]; simp [hi]
    rw [List.getElem?_map] at h2
    cases h3 : xs[i]? with
    | none => rw [h3] at h2; cases h2
    | some x =>
      rw [h3] at h1 h2
      simp only [Option.map_some, Option.some.injEq] at h2
      obtain ⟨d, pp⟩ := x
      simp only at h2
      subst h2
      exact cur_cells h1
  intro i v hv
  have := World.var?_cell hg0 hvar i
  rw [Nat.zero_add, this, ← hv, ← hcs]
  simp
theorem tab_of_laid {W : World} (h : laidMetH P [(curVar, Rows.laid_loop_example_g00793_impl_currencies)] W) : Tab W := tab_of_head (rest := []) h
noncomputable def laidWorld (os : Os) (args : Array Value) : World :=
  { World.holding P os ⟨#[], args, []⟩ with heap := (World.holding P os ⟨#[], args, []⟩).heap.modify 0 fun
      | .cells _ t frozen => .cells ⟨implTab.flatMap curCells⟩ t frozen
      | o => o }
theorem trodVars_one {H : Type} {enc : TypeId × Value → H} {w : World} {sp : Nat → Bool} {n : String} {gs : List (DataW H)} {ps : List MemPlace} (h : DataW.TrodVars enc P w sp [n] gs ps) : ∃ g, gs = [g] := by
  match gs, h with
  | [g], _ => exact ⟨g, rfl⟩
  | g :: g2 :: r, h =>
    obtain ⟨_, _, _, _, _, _, _, _, _, _, h2, _⟩ := h
    exact h2.elim
end Go.Proofs.YtfehpaekbbmkcaaGreatDoor
