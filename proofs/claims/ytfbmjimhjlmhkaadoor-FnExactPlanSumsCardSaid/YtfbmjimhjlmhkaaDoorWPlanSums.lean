/-
  The law FnExactPlanSums returns true and only adds to the memory; printed by a program of mine from the contracts of both sides.
  Conditions: none.
-/
import Derived.Test.YtfbmjimhjlmhkaaDoorCPlanSums
import Derived.Test.YtfbmjimhjlmhkaaDoorDMarkS
import Derived.Test.YtfbmjimhjlmhkaaDoorDM
namespace Go.Proofs.YtfbmjimhjlmhkaaDoor
open Go Go.Proofs.YtfbmjimhjlmhkaaDoor.Sx
set_option linter.unusedVariables false
set_option linter.unusedSimpArgs false

theorem laws_FnExactPlanSums_c {w : World} (a0 : ByteArray) {p1 : Option Addr} {n1 c1 : Nat} {l1 : List (List D0)} (h1 : RowsR w 9 p1 n1 c1 l1) (hc1 : ∀ x ∈ l1, x.map D0.code = [.str, .bool, .ints, .str, .bool, .ints, .str, .bool, .ints]) (hk1 : ∀ x ∈ l1, ∀ d ∈ x, d.ok) (ht : Tab w) :
    Ret P n_laws_FnExactPlanSums [.string a0, .slice p1 n1 c1] w fun v w' => v = .bool true ∧ Ext w w' := by
  refine laws_FnExactPlanSums_ret ?_
  unfold laws_FnExactPlanSums
  have x : Ext w w := Ext.refl w
  refine ifD (fun _ => ⟨rfl, x⟩) (fun hs0 => ?_)
  refine Ret.at (laws_szRowS_c (h1.ext x) hc1 hk1 (by omega) (by omega)) ?_
  rintro v W1 ⟨k1, hv, hs1, hm1, y⟩
  subst hv
  have x := x.trans y
  have ll1 := y.le
  refine ⟨_, rfl, ifD (fun _ => ⟨rfl, x⟩) (fun hp1 => ?_)⟩
  have hs1 := hs1 (by omega)
  have hb1 : ∀ y ∈ l1, bulks y ≤ 1048576 := fun y hy => by have := bulks_le hy; omega
  have hz1 : n1 ≤ 1048576 := by omega
  have hsum1 : (l1.map bulks).sum ≤ 1048576 := by omega
  refine Ret.at (laws_toRowS_c (h1.ext x) hc1 hz1 hb1) ?_
  rintro v W2 ⟨p_s1, c_s1, f_s1, hv, o_s1, y⟩
  subst hv
  have lt_o_s1 : ∀ k ∈ f_s1, W1.heap.size ≤ k ∧ k < W2.heap.size := o_s1.lt
  have yy := y
  have x := x.trans y
  have ll2 := y.le
  refine ⟨_, _, _, rfl, ?_⟩
  refine Ret.at (spec_PlanSums_c a0 o_s1.rows hc1 hz1 hb1) ?_
  rintro v W3 ⟨vs_w0, vs_w1, hv, o_w0, co_w0, o_w1, co_w1, y⟩
  subst hv
  have x := x.trans y
  have ll3 := y.le
  have xS := Ext.refl W3
  obtain ⟨gw00, gw01, gw02p, gw02n, gw02c, gw02z, rfl, hd_w0, gw02h⟩ := open_Money o_w0 co_w0
  obtain ⟨gw10, gw11, gw12p, gw12n, gw12c, gw12z, rfl, hd_w1, gw12h⟩ := open_Money o_w1 co_w1
  refine ⟨_, _, _, _, _, _, _, _, _, _, _, rfl, ?_⟩
  intro r_w0 W4 hn
  have er_w0 := hn.r_eq; have sr_w0 := hn.size
  have y := hn.ext
  have x := x.trans y
  have xS := xS.trans y
  have ll4 := y.le
  have bk_w0 := hn.blk; clear hn
  intro r_w1 W5 hn
  have er_w1 := hn.r_eq; have sr_w1 := hn.size
  have y := hn.ext
  have x := x.trans y
  have xS := xS.trans y
  have bk_w0 := bk_w0.ext y
  have ll5 := y.le
  have bk_w1 := hn.blk; clear hn
  obtain ⟨W6, st, bq, ch, sz⟩ := bk_w0.storeA0 (P := P) (t := T_impl_Money) (xs := [.string gw00, .bool gw01, .slice gw02p gw02n gw02c]) (by kernel_rfl) rfl o_w0.cells1
  have x := x.chg ch (by simp; omega)
  have xS := xS.chg ch (by simp; omega)
  have bk_w1 := bk_w1.chg ch (by simp; omega)
  have bk_w0 := bq; clear bq
  have ll6 := ch.size
  refine ⟨_, st, ?_⟩
  obtain ⟨W7, st, bq, ch, sz⟩ := bk_w1.storeA0 (P := P) (t := T_impl_Money) (xs := [.string gw10, .bool gw11, .slice gw12p gw12n gw12c]) (by kernel_rfl) rfl o_w1.cells1
  have x := x.chg ch (by simp; omega)
  have xS := xS.chg ch (by simp; omega)
  have bk_w0 := bk_w0.chg ch (by simp; omega)
  have bk_w1 := bq; clear bq
  have ll7 := ch.size
  refine ⟨_, st, ?_⟩
  refine Ret.at (laws_toRowS_c (h1.ext x) hc1 hz1 hb1) ?_
  rintro v W8 ⟨p_x1, c_x1, f_x1, hv, o_x1, y⟩
  subst hv
  have lt_o_x1 : ∀ k ∈ f_x1, W7.heap.size ≤ k ∧ k < W8.heap.size := o_x1.lt
  have x := x.trans y
  have xS := xS.trans y
  have bk_w0 := bk_w0.ext y
  have bk_w1 := bk_w1.ext y
  have ll8 := y.le
  refine ⟨_, _, _, rfl, ?_⟩
  refine Ret.at (impl_PlanSums_c a0 o_x1.rows hc1 hz1 hb1 (ht.ext x)) ?_
  rintro v W9 ⟨vs_g0, f_g0, vs_g1, f_g1, hv, o_g0, nd_g0, co_g0, ct_g0, o_g1, nd_g1, co_g1, ct_g1, dis_g, y⟩
  subst hv
  have tn_g0 := tcnts_nn ct_g0
  have lt_o_g0 : ∀ k ∈ f_g0, W8.heap.size ≤ k ∧ k < W9.heap.size := o_g0.lt
  have tn_g1 := tcnts_nn ct_g1
  have lt_o_g1 : ∀ k ∈ f_g1, W8.heap.size ≤ k ∧ k < W9.heap.size := o_g1.lt
  have x := x.trans y
  have xS := xS.trans y
  have bk_w0 := bk_w0.ext y
  have bk_w1 := bk_w1.ext y
  have o_x1 := o_x1.ext y
  have ll9 := y.le
  obtain ⟨gg00, gg01, gg02p, gg02n, gg02c, gg02z, rfl, hd_g0, gg02h⟩ := open_Money o_g0.reps co_g0
  obtain ⟨gg10, gg11, gg12p, gg12n, gg12c, gg12z, rfl, hd_g1, gg12h⟩ := open_Money o_g1.reps co_g1
  refine ⟨_, _, _, _, _, _, _, _, _, _, _, rfl, ?_⟩
  intro r_g0 W10 hn
  have er_g0 := hn.r_eq; have sr_g0 := hn.size
  have y := hn.ext
  have x := x.trans y
  have xS := xS.trans y
  have bk_w0 := bk_w0.ext y
  have bk_w1 := bk_w1.ext y
  have o_x1 := o_x1.ext y
  have o_g0 := o_g0.ext y
  have o_g1 := o_g1.ext y
  have ll10 := y.le
  have bk_g0 := hn.blk; clear hn
  intro r_g1 W11 hn
  have er_g1 := hn.r_eq; have sr_g1 := hn.size
  have y := hn.ext
  have x := x.trans y
  have xS := xS.trans y
  have bk_w0 := bk_w0.ext y
  have bk_w1 := bk_w1.ext y
  have bk_g0 := bk_g0.ext y
  have o_x1 := o_x1.ext y
  have o_g0 := o_g0.ext y
  have o_g1 := o_g1.ext y
  have ll11 := y.le
  have bk_g1 := hn.blk; clear hn
  obtain ⟨W12, st, bq, ch, sz⟩ := bk_g0.storeA0 (P := P) (t := T_impl_Money) (xs := [.string gg00, .bool gg01, .slice gg02p gg02n gg02c]) (by kernel_rfl) rfl o_g0.reps.cells1
  have x := x.chg ch (by simp; omega)
  have xS := xS.chg ch (by simp; omega)
  have bk_w0 := bk_w0.chg ch (by simp; omega)
  have bk_w1 := bk_w1.chg ch (by simp; omega)
  have bk_g1 := bk_g1.chg ch (by simp; omega)
  have o_x1 := o_x1.chg ch (fun k hk hm => by have h1 := lt_o_x1 k hk; simp at hm; omega)
  have o_g0 := o_g0.chg ch (fun k hk hm => by have h1 := lt_o_g0 k hk; simp at hm; omega)
  have o_g1 := o_g1.chg ch (fun k hk hm => by have h1 := lt_o_g1 k hk; simp at hm; omega)
  have bk_g0 := bq; clear bq
  have ll12 := ch.size
  refine ⟨_, st, ?_⟩
  obtain ⟨W13, st, bq, ch, sz⟩ := bk_g1.storeA0 (P := P) (t := T_impl_Money) (xs := [.string gg10, .bool gg11, .slice gg12p gg12n gg12c]) (by kernel_rfl) rfl o_g1.reps.cells1
  have x := x.chg ch (by simp; omega)
  have xS := xS.chg ch (by simp; omega)
  have bk_w0 := bk_w0.chg ch (by simp; omega)
  have bk_w1 := bk_w1.chg ch (by simp; omega)
  have bk_g0 := bk_g0.chg ch (by simp; omega)
  have o_x1 := o_x1.chg ch (fun k hk hm => by have h1 := lt_o_x1 k hk; simp at hm; omega)
  have o_g0 := o_g0.chg ch (fun k hk hm => by have h1 := lt_o_g0 k hk; simp at hm; omega)
  have o_g1 := o_g1.chg ch (fun k hk hm => by have h1 := lt_o_g1 k hk; simp at hm; omega)
  have bk_g1 := bq; clear bq
  have ll13 := ch.size
  refine ⟨_, st, ?_⟩
  refine ⟨_, _, _, _, _, bk_g0.loadA0 (by kernel_rfl), _, _, _, _, _, bk_w0.loadA0 (by kernel_rfl), ?_⟩
  refine Ret.at (laws_eqMoney_c o_g0.reps (o_w0.ext xS) co_g0 co_w0) ?_
  rintro v W14 ⟨hv, y⟩
  subst hv
  have x := x.trans y
  have xS := xS.trans y
  have bk_w0 := bk_w0.ext y
  have bk_w1 := bk_w1.ext y
  have bk_g0 := bk_g0.ext y
  have bk_g1 := bk_g1.ext y
  have o_x1 := o_x1.ext y
  have o_g0 := o_g0.ext y
  have o_g1 := o_g1.ext y
  have ll14 := y.le
  refine ⟨_, rfl, ifN (fun h => absurd h (by simp)) (fun _ => ?_)⟩
  refine ⟨_, _, _, _, _, bk_g1.loadA0 (by kernel_rfl), _, _, _, _, _, bk_w1.loadA0 (by kernel_rfl), ?_⟩
  refine Ret.at (laws_eqMoney_c o_g1.reps (o_w1.ext xS) co_g1 co_w1) ?_
  rintro v W15 ⟨hv, y⟩
  subst hv
  have x := x.trans y
  have xS := xS.trans y
  have bk_w0 := bk_w0.ext y
  have bk_w1 := bk_w1.ext y
  have bk_g0 := bk_g0.ext y
  have bk_g1 := bk_g1.ext y
  have o_x1 := o_x1.ext y
  have o_g0 := o_g0.ext y
  have o_g1 := o_g1.ext y
  have ll15 := y.le
  refine ⟨_, rfl, ifN (fun h => absurd h (by simp)) (fun _ => ?_)⟩
  refine ⟨fun h => absurd h (bne_no rfl), fun _ => ?_⟩
  unfold laws_FnExactPlanSums_j0
  refine Ret.at (laws_toRowS_c (h1.ext x) hc1 hz1 hb1) ?_
  rintro v W16 ⟨p_y1, c_y1, f_y1, hv, o_y1, y⟩
  subst hv
  have lt_o_y1 : ∀ k ∈ f_y1, W15.heap.size ≤ k ∧ k < W16.heap.size := o_y1.lt
  have y2 := y
  have x := x.trans y
  have xS := xS.trans y
  have bk_w0 := bk_w0.ext y
  have bk_w1 := bk_w1.ext y
  have bk_g0 := bk_g0.ext y
  have bk_g1 := bk_g1.ext y
  have o_x1 := o_x1.ext y
  have o_g0 := o_g0.ext y
  have o_g1 := o_g1.ext y
  have ll16 := y.le
  refine ⟨_, _, _, rfl, ?_⟩
  refine Ret.at (laws_eqRowS_c o_x1.rows o_y1.rows hc1 hc1) ?_
  rintro v W17 ⟨hv, y⟩
  subst hv
  have x := x.trans y
  have xS := xS.trans y
  have bk_w0 := bk_w0.ext y
  have bk_w1 := bk_w1.ext y
  have bk_g0 := bk_g0.ext y
  have bk_g1 := bk_g1.ext y
  have o_x1 := o_x1.ext y
  have o_g0 := o_g0.ext y
  have o_g1 := o_g1.ext y
  have ll17 := y.le
  refine ⟨_, rfl, ifN (fun h => absurd h (by simp)) (fun _ => ?_)⟩
  have cn1 := cntL_nonneg l1; have cb1 := cntL_le l1 (m := 9) (fun y hy => by rw [code_len (hc1 y hy)]; decide)
  have cl1 : cntL l1 ≤ 100000000 := by have := h1.1; omega
  refine Ret.at (laws_markRowS_c o_x1 hc1 (by omega) (by omega)) ?_
  rintro v W18 ⟨hv, on, ch⟩
  subst hv
  have x := x.chg ch (fun k hk => by have := lt_o_x1 k hk; omega)
  have xS := xS.chg ch (fun k hk => by have := lt_o_x1 k hk; omega)
  have bk_w0 := bk_w0.chg ch (fun hm => by have := lt_o_x1 _ hm; omega)
  have bk_w1 := bk_w1.chg ch (fun hm => by have := lt_o_x1 _ hm; omega)
  have bk_g0 := bk_g0.chg ch (fun hm => by have := lt_o_x1 _ hm; omega)
  have bk_g1 := bk_g1.chg ch (fun hm => by have := lt_o_x1 _ hm; omega)
  have o_g0 := o_g0.chg ch (fun k hk hm => by have h1 := lt_o_g0 k hk; have h2 := lt_o_x1 k hm; omega)
  have o_g1 := o_g1.chg ch (fun k hk hm => by have h1 := lt_o_g1 k hk; have h2 := lt_o_x1 k hm; omega)
  have ll18 := ch.size
  have o_x1 := on; clear on
  refine ⟨_, rfl, ?_⟩
  refine ifD (fun h => absurd h (by omega)) (fun _ => ?_)
  refine ⟨_, _, _, _, _, bk_g0.loadA0 (by kernel_rfl), _, _, _, _, _, bk_w0.loadA0 (by kernel_rfl), ?_⟩
  refine Ret.at (laws_eqMoney_c o_g0.reps (o_w0.ext xS) co_g0 co_w0) ?_
  rintro v W19 ⟨hv, y⟩
  subst hv
  have x := x.trans y
  have xS := xS.trans y
  have bk_w0 := bk_w0.ext y
  have bk_w1 := bk_w1.ext y
  have bk_g0 := bk_g0.ext y
  have bk_g1 := bk_g1.ext y
  have o_x1 := o_x1.ext y
  have o_g0 := o_g0.ext y
  have o_g1 := o_g1.ext y
  have ll19 := y.le
  refine ⟨_, rfl, ifN (fun h => absurd h (by simp)) (fun _ => ?_)⟩
  refine ⟨_, _, _, _, _, bk_g1.loadA0 (by kernel_rfl), _, _, _, _, _, bk_w1.loadA0 (by kernel_rfl), ?_⟩
  refine Ret.at (laws_eqMoney_c o_g1.reps (o_w1.ext xS) co_g1 co_w1) ?_
  rintro v W20 ⟨hv, y⟩
  subst hv
  have x := x.trans y
  have xS := xS.trans y
  have bk_w0 := bk_w0.ext y
  have bk_w1 := bk_w1.ext y
  have bk_g0 := bk_g0.ext y
  have bk_g1 := bk_g1.ext y
  have o_x1 := o_x1.ext y
  have o_g0 := o_g0.ext y
  have o_g1 := o_g1.ext y
  have ll20 := y.le
  refine ⟨_, rfl, ifN (fun h => absurd h (by simp)) (fun _ => ?_)⟩
  refine ⟨fun h => absurd h (bne_no rfl), fun _ => ?_⟩
  unfold laws_FnExactPlanSums_j1
  refine ⟨_, _, _, _, _, bk_g0.loadA0 (by kernel_rfl), ?_⟩
  refine Ret.at (laws_markMoney_c o_g0 nd_g0 co_g0 (by omega) (by omega)) ?_
  rintro v W21 ⟨hv, on, ch⟩
  subst hv
  have x := x.chg ch (fun k hk => by have := lt_o_g0 k hk; omega)
  have xS := xS.chg ch (fun k hk => by have := lt_o_g0 k hk; omega)
  have bk_w0 := bk_w0.chg ch (fun hm => by have := lt_o_g0 _ hm; omega)
  have bk_w1 := bk_w1.chg ch (fun hm => by have := lt_o_g0 _ hm; omega)
  have bk_g0 := bk_g0.chg ch (fun hm => by have := lt_o_g0 _ hm; omega)
  have bk_g1 := bk_g1.chg ch (fun hm => by have := lt_o_g0 _ hm; omega)
  have o_x1 := o_x1.chg ch (fun k hk hm => by have h1 := lt_o_x1 k hk; have h2 := lt_o_g0 k hm; omega)
  have o_g1 := o_g1.chg ch (fun k hk hm => dis_g k hm hk)
  have ll21 := ch.size
  have o_g0 := on; clear on
  refine ⟨_, rfl, ?_⟩
  refine ⟨_, _, _, _, _, bk_g1.loadA0 (by kernel_rfl), ?_⟩
  refine Ret.at (laws_markMoney_c o_g1 nd_g1 co_g1 (by omega) (by omega)) ?_
  rintro v W22 ⟨hv, on, ch⟩
  subst hv
  have x := x.chg ch (fun k hk => by have := lt_o_g1 k hk; omega)
  have xS := xS.chg ch (fun k hk => by have := lt_o_g1 k hk; omega)
  have bk_w0 := bk_w0.chg ch (fun hm => by have := lt_o_g1 _ hm; omega)
  have bk_w1 := bk_w1.chg ch (fun hm => by have := lt_o_g1 _ hm; omega)
  have bk_g0 := bk_g0.chg ch (fun hm => by have := lt_o_g1 _ hm; omega)
  have bk_g1 := bk_g1.chg ch (fun hm => by have := lt_o_g1 _ hm; omega)
  have o_x1 := o_x1.chg ch (fun k hk hm => by have h1 := lt_o_x1 k hk; have h2 := lt_o_g1 k hm; omega)
  have o_g0 := o_g0.chg ch (fun k hk hm => dis_g k hk hm)
  have ll22 := ch.size
  have o_g1 := on; clear on
  refine ⟨_, rfl, ?_⟩
  refine ⟨_, _, _, _, _, bk_g0.loadA0 (by kernel_rfl), ?_⟩
  refine Ret.at (laws_heldMoney_c o_g0.reps co_g0 (by omega) (by omega)) ?_
  rintro v W23 ⟨hv, y⟩
  subst hv
  have x := x.trans y
  have xS := xS.trans y
  have bk_w0 := bk_w0.ext y
  have bk_w1 := bk_w1.ext y
  have bk_g0 := bk_g0.ext y
  have bk_g1 := bk_g1.ext y
  have o_x1 := o_x1.ext y
  have o_g0 := o_g0.ext y
  have o_g1 := o_g1.ext y
  have ll23 := y.le
  refine ⟨_, rfl, ifD (fun h => absurd h (by omega)) (fun _ => ?_)⟩
  refine ⟨_, _, _, _, _, bk_g1.loadA0 (by kernel_rfl), ?_⟩
  refine Ret.at (laws_heldMoney_c o_g1.reps co_g1 (by omega) (by omega)) ?_
  rintro v W24 ⟨hv, y⟩
  subst hv
  have x := x.trans y
  have xS := xS.trans y
  have bk_w0 := bk_w0.ext y
  have bk_w1 := bk_w1.ext y
  have bk_g0 := bk_g0.ext y
  have bk_g1 := bk_g1.ext y
  have o_x1 := o_x1.ext y
  have o_g0 := o_g0.ext y
  have o_g1 := o_g1.ext y
  have ll24 := y.le
  refine ⟨_, rfl, ifD (fun h => absurd h (by omega)) (fun _ => ?_)⟩
  refine ifD (fun h => absurd rfl h) (fun _ => ?_)
  refine Ret.at (laws_toRowS_c (h1.ext x) hc1 hz1 hb1) ?_
  rintro v W25 ⟨p_h1, c_h1, f_h1, hv, o_h1, y⟩
  subst hv
  have lt_o_h1 : ∀ k ∈ f_h1, W24.heap.size ≤ k ∧ k < W25.heap.size := o_h1.lt
  have yy := y
  have x := x.trans y
  have xS := xS.trans y
  have bk_w0 := bk_w0.ext y
  have bk_w1 := bk_w1.ext y
  have bk_g0 := bk_g0.ext y
  have bk_g1 := bk_g1.ext y
  have o_x1 := o_x1.ext y
  have o_g0 := o_g0.ext y
  have o_g1 := o_g1.ext y
  have ll25 := y.le
  refine ⟨_, _, _, rfl, ?_⟩
  refine Ret.at (impl_PlanSums_c a0 o_h1.rows hc1 hz1 hb1 (ht.ext x)) ?_
  rintro v W26 ⟨vs_h0, f_h0, vs_h1, f_h1, hv, o_h0, nd_h0, co_h0, ct_h0, o_h1, nd_h1, co_h1, ct_h1, dis_h, y⟩
  subst hv
  have tn_h0 := tcnts_nn ct_h0
  have lt_o_h0 : ∀ k ∈ f_h0, W25.heap.size ≤ k ∧ k < W26.heap.size := o_h0.lt
  have tn_h1 := tcnts_nn ct_h1
  have lt_o_h1 : ∀ k ∈ f_h1, W25.heap.size ≤ k ∧ k < W26.heap.size := o_h1.lt
  have x := x.trans y
  have xS := xS.trans y
  have bk_w0 := bk_w0.ext y
  have bk_w1 := bk_w1.ext y
  have bk_g0 := bk_g0.ext y
  have bk_g1 := bk_g1.ext y
  have o_x1 := o_x1.ext y
  have o_g0 := o_g0.ext y
  have o_g1 := o_g1.ext y
  have ll26 := y.le
  obtain ⟨gh00, gh01, gh02p, gh02n, gh02c, gh02z, rfl, hd_h0, gh02h⟩ := open_Money o_h0.reps co_h0
  obtain ⟨gh10, gh11, gh12p, gh12n, gh12c, gh12z, rfl, hd_h1, gh12h⟩ := open_Money o_h1.reps co_h1
  refine ⟨_, _, _, _, _, _, _, _, _, _, _, rfl, ?_⟩
  intro r_h0 W27 hn
  have er_h0 := hn.r_eq; have sr_h0 := hn.size
  have y := hn.ext
  have x := x.trans y
  have xS := xS.trans y
  have bk_w0 := bk_w0.ext y
  have bk_w1 := bk_w1.ext y
  have bk_g0 := bk_g0.ext y
  have bk_g1 := bk_g1.ext y
  have o_x1 := o_x1.ext y
  have o_g0 := o_g0.ext y
  have o_g1 := o_g1.ext y
  have o_h0 := o_h0.ext y
  have o_h1 := o_h1.ext y
  have ll27 := y.le
  have bk_h0 := hn.blk; clear hn
  intro r_h1 W28 hn
  have er_h1 := hn.r_eq; have sr_h1 := hn.size
  have y := hn.ext
  have x := x.trans y
  have xS := xS.trans y
  have bk_w0 := bk_w0.ext y
  have bk_w1 := bk_w1.ext y
  have bk_g0 := bk_g0.ext y
  have bk_g1 := bk_g1.ext y
  have bk_h0 := bk_h0.ext y
  have o_x1 := o_x1.ext y
  have o_g0 := o_g0.ext y
  have o_g1 := o_g1.ext y
  have o_h0 := o_h0.ext y
  have o_h1 := o_h1.ext y
  have ll28 := y.le
  have bk_h1 := hn.blk; clear hn
  obtain ⟨W29, st, bq, ch, sz⟩ := bk_h0.storeA0 (P := P) (t := T_impl_Money) (xs := [.string gh00, .bool gh01, .slice gh02p gh02n gh02c]) (by kernel_rfl) rfl o_h0.reps.cells1
  have x := x.chg ch (by simp; omega)
  have xS := xS.chg ch (by simp; omega)
  have bk_w0 := bk_w0.chg ch (by simp; omega)
  have bk_w1 := bk_w1.chg ch (by simp; omega)
  have bk_g0 := bk_g0.chg ch (by simp; omega)
  have bk_g1 := bk_g1.chg ch (by simp; omega)
  have bk_h1 := bk_h1.chg ch (by simp; omega)
  have o_x1 := o_x1.chg ch (fun k hk hm => by have h1 := lt_o_x1 k hk; simp at hm; omega)
  have o_g0 := o_g0.chg ch (fun k hk hm => by have h1 := lt_o_g0 k hk; simp at hm; omega)
  have o_g1 := o_g1.chg ch (fun k hk hm => by have h1 := lt_o_g1 k hk; simp at hm; omega)
  have o_h0 := o_h0.chg ch (fun k hk hm => by have h1 := lt_o_h0 k hk; simp at hm; omega)
  have o_h1 := o_h1.chg ch (fun k hk hm => by have h1 := lt_o_h1 k hk; simp at hm; omega)
  have bk_h0 := bq; clear bq
  have ll29 := ch.size
  refine ⟨_, st, ?_⟩
  obtain ⟨W30, st, bq, ch, sz⟩ := bk_h1.storeA0 (P := P) (t := T_impl_Money) (xs := [.string gh10, .bool gh11, .slice gh12p gh12n gh12c]) (by kernel_rfl) rfl o_h1.reps.cells1
  have x := x.chg ch (by simp; omega)
  have xS := xS.chg ch (by simp; omega)
  have bk_w0 := bk_w0.chg ch (by simp; omega)
  have bk_w1 := bk_w1.chg ch (by simp; omega)
  have bk_g0 := bk_g0.chg ch (by simp; omega)
  have bk_g1 := bk_g1.chg ch (by simp; omega)
  have bk_h0 := bk_h0.chg ch (by simp; omega)
  have o_x1 := o_x1.chg ch (fun k hk hm => by have h1 := lt_o_x1 k hk; simp at hm; omega)
  have o_g0 := o_g0.chg ch (fun k hk hm => by have h1 := lt_o_g0 k hk; simp at hm; omega)
  have o_g1 := o_g1.chg ch (fun k hk hm => by have h1 := lt_o_g1 k hk; simp at hm; omega)
  have o_h0 := o_h0.chg ch (fun k hk hm => by have h1 := lt_o_h0 k hk; simp at hm; omega)
  have o_h1 := o_h1.chg ch (fun k hk hm => by have h1 := lt_o_h1 k hk; simp at hm; omega)
  have bk_h1 := bq; clear bq
  have ll30 := ch.size
  refine ⟨_, st, ?_⟩
  refine ⟨_, _, _, _, _, bk_h0.loadA0 (by kernel_rfl), _, _, _, _, _, bk_w0.loadA0 (by kernel_rfl), ?_⟩
  refine Ret.at (laws_eqMoney_c o_h0.reps (o_w0.ext xS) co_h0 co_w0) ?_
  rintro v W31 ⟨hv, y⟩
  subst hv
  have x := x.trans y
  have xS := xS.trans y
  have bk_w0 := bk_w0.ext y
  have bk_w1 := bk_w1.ext y
  have bk_g0 := bk_g0.ext y
  have bk_g1 := bk_g1.ext y
  have bk_h0 := bk_h0.ext y
  have bk_h1 := bk_h1.ext y
  have o_x1 := o_x1.ext y
  have o_g0 := o_g0.ext y
  have o_g1 := o_g1.ext y
  have o_h0 := o_h0.ext y
  have o_h1 := o_h1.ext y
  have ll31 := y.le
  refine ⟨_, rfl, ifN (fun h => absurd h (by simp)) (fun _ => ?_)⟩
  refine ⟨_, _, _, _, _, bk_h1.loadA0 (by kernel_rfl), _, _, _, _, _, bk_w1.loadA0 (by kernel_rfl), ?_⟩
  refine Ret.at (laws_eqMoney_c o_h1.reps (o_w1.ext xS) co_h1 co_w1) ?_
  rintro v W32 ⟨hv, y⟩
  subst hv
  have x := x.trans y
  have xS := xS.trans y
  have bk_w0 := bk_w0.ext y
  have bk_w1 := bk_w1.ext y
  have bk_g0 := bk_g0.ext y
  have bk_g1 := bk_g1.ext y
  have bk_h0 := bk_h0.ext y
  have bk_h1 := bk_h1.ext y
  have o_x1 := o_x1.ext y
  have o_g0 := o_g0.ext y
  have o_g1 := o_g1.ext y
  have o_h0 := o_h0.ext y
  have o_h1 := o_h1.ext y
  have ll32 := y.le
  refine ⟨_, rfl, ifN (fun h => absurd h (by simp)) (fun _ => ?_)⟩
  refine ⟨fun h => absurd h (bne_no rfl), fun _ => ?_⟩
  unfold laws_FnExactPlanSums_j2
  refine ⟨_, _, _, _, _, bk_g0.loadA0 (by kernel_rfl), ?_⟩
  refine Ret.at (laws_heldMoney_c o_g0.reps co_g0 (by omega) (by omega)) ?_
  rintro v W33 ⟨hv, y⟩
  subst hv
  have x := x.trans y
  have xS := xS.trans y
  have bk_w0 := bk_w0.ext y
  have bk_w1 := bk_w1.ext y
  have bk_g0 := bk_g0.ext y
  have bk_g1 := bk_g1.ext y
  have bk_h0 := bk_h0.ext y
  have bk_h1 := bk_h1.ext y
  have o_x1 := o_x1.ext y
  have o_g0 := o_g0.ext y
  have o_g1 := o_g1.ext y
  have o_h0 := o_h0.ext y
  have o_h1 := o_h1.ext y
  have ll33 := y.le
  refine ⟨_, rfl, ifD (fun h => absurd h (by omega)) (fun _ => ?_)⟩
  refine ⟨_, _, _, _, _, bk_g1.loadA0 (by kernel_rfl), ?_⟩
  refine Ret.at (laws_heldMoney_c o_g1.reps co_g1 (by omega) (by omega)) ?_
  rintro v W34 ⟨hv, y⟩
  subst hv
  have x := x.trans y
  have xS := xS.trans y
  have bk_w0 := bk_w0.ext y
  have bk_w1 := bk_w1.ext y
  have bk_g0 := bk_g0.ext y
  have bk_g1 := bk_g1.ext y
  have bk_h0 := bk_h0.ext y
  have bk_h1 := bk_h1.ext y
  have o_x1 := o_x1.ext y
  have o_g0 := o_g0.ext y
  have o_g1 := o_g1.ext y
  have o_h0 := o_h0.ext y
  have o_h1 := o_h1.ext y
  have ll34 := y.le
  refine ⟨_, rfl, ifD (fun h => absurd h (by omega)) (fun _ => ?_)⟩
  refine ifD (fun h => absurd rfl h) (fun _ => ?_)
  exact ⟨rfl, x⟩

end Go.Proofs.YtfbmjimhjlmhkaaDoor
